/-
  Part Z: numbers from 0 on compared as such; more of bits.
-/
import Derived.Test.YtfmcnojojknkfaaOtY
import Derived.ChangeOld
import Derived.OpenShut
set_option linter.unusedVariables false
set_option linter.unusedSimpArgs false
namespace Go.Ot
open Go.RowKit
@[simp] theorem beqN (a b : Nat) : ((a : Int) == (b : Int)) = decide (a = b) := by
  by_cases h : a = b
  · subst h; simp
  · have : ¬ (a : Int) = (b : Int) := by omega
    simp [h, this]
@[simp] theorem beqL (a n : Nat) : ((a : Int) == (no_index (OfNat.ofNat n) : Int)) = decide (a = OfNat.ofNat n) := beqN a n
@[simp] theorem bneN (a b : Nat) : ((a : Int) != (b : Int)) = !decide (a = b) := by simp only [bne, beqN]
@[simp] theorem bneL (a n : Nat) : ((a : Int) != (no_index (OfNat.ofNat n) : Int)) = !decide (a = OfNat.ofNat n) := bneN a n
@[simp] theorem ltNL (a n : Nat) : ((a : Int) < (no_index (OfNat.ofNat n) : Int)) = (a < OfNat.ofNat n) := propext Int.ofNat_lt
@[simp] theorem ltLN (a n : Nat) : ((no_index (OfNat.ofNat n) : Int) < (a : Int)) = (OfNat.ofNat n < a) := propext Int.ofNat_lt
@[simp] theorem leNL (a n : Nat) : ((a : Int) ≤ (no_index (OfNat.ofNat n) : Int)) = (a ≤ OfNat.ofNat n) := propext Int.ofNat_le
@[simp] theorem leLN (a n : Nat) : ((no_index (OfNat.ofNat n) : Int) ≤ (a : Int)) = (OfNat.ofNat n ≤ a) := propext Int.ofNat_le
@[simp] theorem wrap_0 : IntKind.i64.wrap 0 = 0 := by decide
@[simp] theorem wrap_1 : IntKind.i64.wrap 1 = 1 := by decide
@[simp] theorem wrap_2 : IntKind.i64.wrap 2 = 2 := by decide
@[simp] theorem wrap_3 : IntKind.i64.wrap 3 = 3 := by decide
@[simp] theorem wrap_4 : IntKind.i64.wrap 4 = 4 := by decide
@[simp] theorem wrap_5 : IntKind.i64.wrap 5 = 5 := by decide
@[simp] theorem wrap_6 : IntKind.i64.wrap 6 = 6 := by decide
@[simp] theorem wrap_7 : IntKind.i64.wrap 7 = 7 := by decide
@[simp] theorem wrap_8 : IntKind.i64.wrap 8 = 8 := by decide
@[simp] theorem wrap_9 : IntKind.i64.wrap 9 = 9 := by decide
@[simp] theorem wrap_10 : IntKind.i64.wrap 10 = 10 := by decide
@[simp] theorem wrap_11 : IntKind.i64.wrap 11 = 11 := by decide
@[simp] theorem wrap_12 : IntKind.i64.wrap 12 = 12 := by decide
@[simp] theorem wrap_13 : IntKind.i64.wrap 13 = 13 := by decide
@[simp] theorem wrap_14 : IntKind.i64.wrap 14 = 14 := by decide
@[simp] theorem wrap_15 : IntKind.i64.wrap 15 = 15 := by decide
@[simp] theorem wrap_16 : IntKind.i64.wrap 16 = 16 := by decide
@[simp] theorem wrap_17 : IntKind.i64.wrap 17 = 17 := by decide
@[simp] theorem wrap_18 : IntKind.i64.wrap 18 = 18 := by decide
@[simp] theorem wrap_19 : IntKind.i64.wrap 19 = 19 := by decide
@[simp] theorem wrap_20 : IntKind.i64.wrap 20 = 20 := by decide
@[simp] theorem wrap_21 : IntKind.i64.wrap 21 = 21 := by decide
@[simp] theorem wrap_22 : IntKind.i64.wrap 22 = 22 := by decide
@[simp] theorem wrap_23 : IntKind.i64.wrap 23 = 23 := by decide
@[simp] theorem wrap_24 : IntKind.i64.wrap 24 = 24 := by decide
@[simp] theorem wrap_25 : IntKind.i64.wrap 25 = 25 := by decide
@[simp] theorem wrap_26 : IntKind.i64.wrap 26 = 26 := by decide
@[simp] theorem wrap_27 : IntKind.i64.wrap 27 = 27 := by decide
@[simp] theorem wrap_28 : IntKind.i64.wrap 28 = 28 := by decide
@[simp] theorem wrap_29 : IntKind.i64.wrap 29 = 29 := by decide
@[simp] theorem wrap_30 : IntKind.i64.wrap 30 = 30 := by decide
@[simp] theorem wrap_31 : IntKind.i64.wrap 31 = 31 := by decide
@[simp] theorem wrap_32 : IntKind.i64.wrap 32 = 32 := by decide
@[simp] theorem wantB_undef (b : Bool) : wantB b undef = false := by cases b <;> rfl
theorem and_u8 (a b : Nat) (ha : a < 256) (hb : b < 256) : IntKind.u8.wrap ((BitVec.ofInt IntKind.u8.bits (a : Int) &&& BitVec.ofInt IntKind.u8.bits (b : Int)).toNat : Int) = ((a &&& b : Nat) : Int) := by
  rw [BitVec.toNat_and, bits_u8 a ha, bits_u8 b hb, wu8_mod, Nat.mod_eq_of_lt (Nat.lt_of_le_of_lt Nat.and_le_left ha)]
theorem and_u64 (a b : Nat) (ha : a < 18446744073709551616) (hb : b < 18446744073709551616) : IntKind.u64.wrap ((BitVec.ofInt IntKind.u64.bits (a : Int) &&& BitVec.ofInt IntKind.u64.bits (b : Int)).toNat : Int) = ((a &&& b : Nat) : Int) := by
  rw [BitVec.toNat_and, bits_u64 a ha, bits_u64 b hb, wu64_mod, Nat.mod_eq_of_lt (Nat.lt_of_le_of_lt Nat.and_le_left ha)]

/-! ### a row that grows, in a cell of a block -/
/-- Behind it: so stands p's block, so the row of its own, and all but p and the old row is as it was. -/
structure Pa (H H' : Heap) (p : Nat) (k : Blk) (ety : Nat) (x : Value) (n' : Nat) (cs' : List Value) (x' : Value) : Prop where
  base : H'.base = H.base
  next : H.next ≤ H'.next
  wf : H'.WF
  bp : H'.blk p = some k
  own : Own H' ety 1 n' cs' x'
  new : ∀ b, blkOf x' = some b → H.next ≤ b ∧ b < H'.next
  same : ∀ b, b < H.next → b ≠ p → blkOf x ≠ some b → H'.blk b = H.blk b
theorem Own.new {H : Heap} (hw : H.WF) {ety sz n : Nat} {cs : List Value} {x : Value} (h : Own H ety sz n cs x) (ty s : Nat) (c : List Value) : Own (H.new ty s c) ety sz n cs x :=
  h.keep rfl (fun b hb => by
    have := h.lt hw hb
    have : b ≠ H.next := by omega
    simp [this])
theorem push_at {H : Heap} (hw : H.WF) {p tp sz ety n : Nat} {cells cs : List Value} {x : Value} (hp : ¬ p < H.B) (bp : H.blk p = some ⟨tp, sz, cells⟩) (own : Own H ety 1 n cs x) (px : blkOf x ≠ some p) (v : Value) (k : Nat)
    (hk : k < cells.length) {bytes c : Nat} (hb : (n + 1) * bytes ≤ 140737488355328) (hz : 0 < sz := by first | exact Nat.succ_pos _ | assumption | (simp; done) | (simp; omega)) :
    ∃ HA, sAppend (H.new ety 1 [v]) ety 1 bytes x (.slice (some ⟨H.next, 0, none⟩) 1 c) = some (.slice (some ⟨H.next + 1, 0, none⟩) (n + 1) 0, HA) ∧
      (∀ w, HA.store ⟨p, k, none⟩ w = some (HA.put p (cells.set k w))) ∧
      Pa H (HA.put p (cells.set k (.slice (some ⟨H.next + 1, 0, none⟩) (n + 1) 0))) p ⟨tp, sz, cells.set k (.slice (some ⟨H.next + 1, 0, none⟩) (n + 1) 0)⟩ ety x (n + 1) (cs ++ [v]) (.slice (some ⟨H.next + 1, 0, none⟩) (n + 1) 0) := by
  have hpn := hw.lt bp
  have hnB := hw.next_ge
  have hap := append_any (bytes := bytes) (own.new hw ety 1 [v]) (src_one (H := H.new ety 1 [v]) (c := c) (by simpa using hnB) (by simp; exact ⟨rfl, rfl⟩)) (by omega) hb
  have p1 : p ≠ H.next := by omega
  have p2 : p ≠ H.next + 1 := by omega
  refine ⟨_, hap, ?_, ⟨by simp, by simp; omega, WF_put (WF_new (WF_drop (WF_new hw _ _ _) _) _ _ _) _ _, ?_, ?_, ?_, ?_⟩⟩
  · intro w
    have hk2 : (((H.new ety 1 [v]).drop x).new ety 1 (cs ++ [v])).blk p = some ⟨tp, sz, cells⟩ := by simp [p1, p2, blk_drop, bp, px]
    rw [store_own (by simpa using hp) hk2, if_pos hk]
  · simp [p1, p2, blk_drop, bp, px]
  · refine Own.mk (by simp [own.1]) (by simp; omega) ?_
    simp [p2.symm]
  · intro b hb
    simp at hb; subst hb
    simp
  · intro b hb hp' hx
    have m1 : b ≠ H.next := by omega
    have m2 : b ≠ H.next + 1 := by omega
    simp [hp', m1, m2, blk_drop, hx]
/-- The same, with no places told. -/
theorem push_in {H : Heap} (hw : H.WF) {p tp sz ety n : Nat} {cells cs : List Value} {x : Value} (hp : ¬ p < H.B) (bp : H.blk p = some ⟨tp, sz, cells⟩) (own : Own H ety 1 n cs x) (px : blkOf x ≠ some p) (v : Value) (k : Nat)
    (hk : k < cells.length) (bytes c : Nat) (hb : (n + 1) * bytes ≤ 140737488355328) (hz : 0 < sz := by first | exact Nat.succ_pos _ | assumption | (simp; done) | (simp; omega)) :
    ∃ a HA H', sAppend (H.new ety 1 [v]) ety 1 bytes x (.slice (some ⟨H.next, 0, none⟩) 1 c) = some (.slice (some a) (n + 1) 0, HA) ∧
      HA.store ⟨p, k, none⟩ (.slice (some a) (n + 1) 0) = some H' ∧ Pa H H' p ⟨tp, sz, cells.set k (.slice (some a) (n + 1) 0)⟩ ety x (n + 1) (cs ++ [v]) (.slice (some a) (n + 1) 0) := by
  obtain ⟨HA, h1, h2, h3⟩ := push_at hw hp bp own px v k hk (bytes := bytes) (c := c) hb
  exact ⟨_, HA, _, h1, h2 _, h3⟩
/-- Behind it (rows of several cells): so stands p's block, so the rows of its own, and all but p and the old rows is as it was. -/
structure PaN (H H' : Heap) (p : Nat) (k : Blk) (ety sz : Nat) (x : Value) (n' : Nat) (cs' : List Value) (x' : Value) : Prop where
  base : H'.base = H.base
  next : H.next ≤ H'.next
  wf : H'.WF
  bp : H'.blk p = some k
  own : Own H' ety sz n' cs' x'
  new : ∀ b, blkOf x' = some b → H.next ≤ b ∧ b < H'.next
  same : ∀ b, b < H.next → b ≠ p → blkOf x ≠ some b → H'.blk b = H.blk b
theorem push_row {H : Heap} (hw : H.WF) {p tp sz0 ety sz n : Nat} {cells cs : List Value} {x : Value} (hp : ¬ p < H.B) (bp : H.blk p = some ⟨tp, sz0, cells⟩) (own : Own H ety sz n cs x) (px : blkOf x ≠ some p) (row : List Value) (hr : row.length = sz) (k : Nat)
    (hk : k < cells.length) (bytes c : Nat) (hb : (n + 1) * bytes ≤ 140737488355328) (hz : 0 < sz := by first | exact Nat.succ_pos _ | assumption | (simp; done) | (simp; omega)) (hz0 : 0 < sz0 := by first | exact Nat.succ_pos _ | assumption | (simp; done) | (simp; omega)) :
    ∃ a HA H', sAppend (H.new ety sz row) ety sz bytes x (.slice (some ⟨H.next, 0, none⟩) 1 c) = some (.slice (some a) (n + 1) 0, HA) ∧
      HA.store ⟨p, k, none⟩ (.slice (some a) (n + 1) 0) = some H' ∧ PaN H H' p ⟨tp, sz0, cells.set k (.slice (some a) (n + 1) 0)⟩ ety sz x (n + 1) (cs ++ row) (.slice (some a) (n + 1) 0) := by
  have hpn := hw.lt bp
  have hnB := hw.next_ge
  have hsrc : srcCells (H.new ety sz row) sz (.slice (some ⟨H.next, 0, none⟩) 1 c) = some (1, row) := by
    rw [src_at (ety := ety) (cs := row) (by simpa using hnB) (by simp) (by omega)]
    simp [List.take_of_length_le, hr]
  have hap := append_any (bytes := bytes) (own.new hw ety sz row) hsrc (by omega) hb
  have p1 : p ≠ H.next := by omega
  have p2 : p ≠ H.next + 1 := by omega
  have hk2 : (((H.new ety sz row).drop x).new ety sz (cs ++ row)).blk p = some ⟨tp, sz0, cells⟩ := by simp [p1, p2, blk_drop, bp, px]
  refine ⟨_, _, _, hap, by rw [store_own (by simpa using hp) hk2, if_pos hk], ⟨by simp, by simp; omega, WF_put (WF_new (WF_drop (WF_new hw _ _ _) _) _ _ _) _ _, ?_, ?_, ?_, ?_⟩⟩
  · simp [p1, p2, blk_drop, bp, px]
  · refine Own.mk (by simp [own.1, hr, Nat.add_mul]) (by simp; omega) ?_
    simp [p2.symm]
  · intro b hb
    simp at hb; subst hb
    simp
  · intro b hb hp' hx
    have m1 : b ≠ H.next := by omega
    have m2 : b ≠ H.next + 1 := by omega
    simp [hp', m1, m2, blk_drop, hx]
theorem Ints.at {H : Heap} {k : IntKind} {x : Value} {xs : List Int} (h : Ints H k x xs) {i : Nat} (hi : i < xs.length) : ∃ b off c, x = .slice (some ⟨b, off, none⟩) xs.length c ∧ H.load ⟨b, off + i, none⟩ = some (.int k xs[i]) := by
  rcases h with ⟨rfl, rfl⟩ | ⟨b, off, c, rfl, h2⟩
  · simp at hi
  · exact ⟨b, off, c, rfl, h2 i hi⟩
theorem Own.ints {H : Heap} {ety n : Nat} {k : IntKind} {xs : List Int} {x : Value} (h : Own H ety 1 n (xs.map (.int k)) x) : Ints H k x xs := by
  have hl := h.1
  rw [List.length_map, Nat.mul_one] at hl
  rcases h.2 with ⟨rfl, rfl⟩ | ⟨b, rest, rfl, hB, hk⟩
  · exact .inl ⟨rfl, List.length_eq_zero_iff.1 hl⟩
  · refine .inr ⟨b, 0, 0, by rw [hl], fun i hi => ?_⟩
    rw [load_at hB hk, Nat.zero_add, List.getElem?_append_left (by rw [List.length_map]; exact hi)]
    simp [hi]
theorem loadN_ints {H : Heap} {k : IntKind} {b off : Nat} : ∀ {l : List Int} {i : Nat}, (∀ j (h : j < l.length), H.load ⟨b, off + i + j, none⟩ = some (.int k l[j])) → H.loadN ⟨b, off, none⟩ i l.length = some (l.map (.int k))
  | [], i, h => by simp [Heap.loadN]
  | a :: l, i, h => by
    simp only [List.length_cons, Heap.loadN, add_own]
    have h0 := h 0 (by simp)
    simp only [Nat.add_zero, List.getElem_cons_zero] at h0
    rw [h0, Option.bind_some, loadN_ints (l := l) (i := i + 1) (fun j hj => by
      have := h (j + 1) (by simp; omega)
      rw [show off + (i + 1) + j = off + i + (j + 1) by omega]
      simpa using this)]
    simp
theorem Ints.src {H : Heap} {k : IntKind} {x : Value} {l : List Int} (h : Ints H k x l) : srcCells H 1 x = some (l.length, l.map (.int k)) := by
  rcases h with ⟨rfl, rfl⟩ | ⟨b, off, c, rfl, h⟩
  · simp [srcCells_nil]
  · rw [srcCells_slice, Nat.mul_one, loadN_ints (fun j hj => by simpa using h j hj)]; simp
theorem sub_ints {H : Heap} {k : IntKind} {b off : Nat} {l : List Int} (h : ∀ i (h : i < l.length), H.load ⟨b, off + i, none⟩ = some (.int k l[i])) (lo hi : Nat) (h1 : lo ≤ hi) (h2 : hi ≤ l.length) (c' : Nat) :
    Ints H k (.slice (some ⟨b, off + lo, none⟩) (hi - lo) c') ((l.take hi).drop lo) := by
  have hlen : ((l.take hi).drop lo).length = hi - lo := by simp; omega
  refine .inr ⟨b, off + lo, c', by rw [hlen], fun i hi' => ?_⟩
  rw [hlen] at hi'
  rw [show off + lo + i = off + (lo + i) by omega, h (lo + i) (by omega)]
  simp
/-- A part of numbers that may be read may be read. -/
theorem Ints.from {H : Heap} {k : IntKind} {x : Value} {l : List Int} (h : Ints H k x l) (lo : Nat) (h1 : lo ≤ l.length) :
    ∃ y, sSlice 1 x (some (.int .i64 (lo : Int))) none none = some y ∧ Ints H k y (l.drop lo) := by
  rcases h with ⟨rfl, rfl⟩ | ⟨b, off, c, rfl, h⟩
  · have : lo = 0 := by simpa using h1
    subst this
    exact ⟨.slice none 0 0, by simp [sSlice, bnd], .inl ⟨rfl, rfl⟩⟩
  · refine ⟨.slice (some ⟨b, off + lo, none⟩) (l.length - lo) (if lo = 0 then c else 2), ?_, by simpa using sub_ints h lo l.length h1 (Nat.le_refl _) (if lo = 0 then c else 2)⟩
    simp [sSlice, bnd, h1, add_own]
    by_cases hz : lo = 0
    · by_cases hc : c = 1 <;> simp [hz, hc]
    · simp [hz]
theorem Ints.upto {H : Heap} {k : IntKind} {x : Value} {l : List Int} (h : Ints H k x l) (hi : Nat) (h1 : hi ≤ l.length) :
    ∃ y, sSlice 1 x none (some (.int .i64 (hi : Int))) none = some y ∧ Ints H k y (l.take hi) := by
  rcases h with ⟨rfl, rfl⟩ | ⟨b, off, c, rfl, h⟩
  · have : hi = 0 := by simpa using h1
    subst this
    exact ⟨.slice none 0 0, by simp [sSlice, bnd], .inl ⟨rfl, rfl⟩⟩
  · refine ⟨.slice (some ⟨b, off, none⟩) hi (if c = 1 then (if hi = l.length then 1 else 2) else c), ?_, by simpa using sub_ints h 0 hi (by omega) h1 (if c = 1 then (if hi = l.length then 1 else 2) else c)⟩
    simp [sSlice, bnd, h1, add_own]
theorem load_frame {H H' : Heap} (hb : H'.base = H.base) {b off : Nat} (hk : H'.blk b = H.blk b) : H'.load ⟨b, off, none⟩ = H.load ⟨b, off, none⟩ := by
  by_cases hB : b < H.B
  · exact load_ext hb hB
  · have hB' : ¬ b < H'.B := by rw [B_eq hb]; exact hB
    simp [Heap.load, hB, hB', hk]
theorem load_lt {H : Heap} (hw : H.WF) {b off : Nat} {v : Value} (h : H.load ⟨b, off, none⟩ = some v) : b < H.next := by
  by_cases hB : b < H.B
  · have := hw.next; omega
  · cases hk : H.blk b with
    | none => simp [Heap.load, hB, hk] at h
    | some k => exact hw.lt hk
theorem load_newN {H : Heap} (hw : H.WF) {b off : Nat} {v : Value} (h : H.load ⟨b, off, none⟩ = some v) (ty sz : Nat) (c : List Value) : (H.new ty sz c).load ⟨b, off, none⟩ = some v := by
  have := load_lt hw h
  rw [load_frame (H := H) (H' := H.new ty sz c) rfl (by simp [show b ≠ H.next by omega])]; exact h
theorem load_keepN {H H' : Heap} (hw : H.WF) (hb : H'.base = H.base) (hk : ∀ b, b < H.next → H'.blk b = H.blk b) {b off : Nat} {v : Value} (h : H.load ⟨b, off, none⟩ = some v) : H'.load ⟨b, off, none⟩ = some v := by
  rw [load_frame hb (hk b (load_lt hw h))]; exact h
/-- What is read stays, if what was there stays. -/
theorem Ints.keep {H H' : Heap} (hw : H.WF) (hb : H'.base = H.base) (hk : ∀ b, b < H.next → H'.blk b = H.blk b) {k : IntKind} {x : Value} {xs : List Int} (h : Ints H k x xs) : Ints H' k x xs := by
  rcases h with h | ⟨b, off, c, rfl, h⟩
  · exact .inl h
  · exact .inr ⟨b, off, c, rfl, fun i hi => by rw [load_frame hb (hk b (load_lt hw (h i hi)))]; exact h i hi⟩
theorem Ints.frame {H H' : Heap} (hb : H'.base = H.base) {k : IntKind} {x : Value} {xs : List Int} (h : Ints H k x xs) (hk : ∀ b, blkOf x = some b → H'.blk b = H.blk b) : Ints H' k x xs := by
  rcases h with h | ⟨b, off, c, rfl, h⟩
  · exact .inl h
  · exact .inr ⟨b, off, c, rfl, fun i hi => by rw [load_frame hb (hk b rfl)]; exact h i hi⟩

/-- A slice of truths that may be read. -/
def Bools (H : Heap) (x : Value) (l : List Bool) : Prop :=
  (x = .slice none 0 0 ∧ l = []) ∨ ∃ b off c, x = .slice (some ⟨b, off, none⟩) l.length c ∧ ∀ i (h : i < l.length), H.load ⟨b, off + i, none⟩ = some (.bool l[i])
theorem Bools.len {H : Heap} {x : Value} {l : List Bool} (h : Bools H x l) : ∃ a c, x = .slice a l.length c := by
  rcases h with ⟨rfl, rfl⟩ | ⟨b, off, c, rfl, h⟩ <;> exact ⟨_, _, rfl⟩
theorem Bools.at {H : Heap} {x : Value} {l : List Bool} (h : Bools H x l) {i : Nat} (hi : i < l.length) : ∃ b off c, x = .slice (some ⟨b, off, none⟩) l.length c ∧ H.load ⟨b, off + i, none⟩ = some (.bool l[i]) := by
  rcases h with ⟨rfl, rfl⟩ | ⟨b, off, c, rfl, h⟩
  · simp at hi
  · exact ⟨b, off, c, rfl, h i hi⟩
theorem Bools.keep {H H' : Heap} (hw : H.WF) (hb : H'.base = H.base) (hk : ∀ b, b < H.next → H'.blk b = H.blk b) {x : Value} {l : List Bool} (h : Bools H x l) : Bools H' x l := by
  rcases h with h | ⟨b, off, c, rfl, h⟩
  · exact .inl h
  · exact .inr ⟨b, off, c, rfl, fun i hi => load_keepN hw hb hk (h i hi)⟩

/-! ### rows of structs -/
/-- A slice whose elements are these rows of cells, which may be read. -/
def Rws (H : Heap) (sz : Nat) (x : Value) (l : List (List Value)) : Prop :=
  (x = .slice none 0 0 ∧ l = []) ∨ ∃ b off c, x = .slice (some ⟨b, off, none⟩) l.length c ∧ ∀ i (h : i < l.length), l[i].length = sz ∧ ∀ j (hj : j < l[i].length), H.load ⟨b, off + i * sz + j, none⟩ = some l[i][j]
theorem Rws.len {H : Heap} {sz : Nat} {x : Value} {l : List (List Value)} (h : Rws H sz x l) : ∃ a c, x = .slice a l.length c := by
  rcases h with ⟨rfl, rfl⟩ | ⟨b, off, c, rfl, h⟩ <;> exact ⟨_, _, rfl⟩
theorem loadN_cells {H : Heap} {b off : Nat} : ∀ {l : List Value} {i : Nat}, (∀ j (h : j < l.length), H.load ⟨b, off + i + j, none⟩ = some l[j]) → H.loadN ⟨b, off, none⟩ i l.length = some l
  | [], i, h => by simp [Heap.loadN]
  | a :: l, i, h => by
    simp only [List.length_cons, Heap.loadN, add_own]
    have h0 := h 0 (by simp)
    simp only [Nat.add_zero, List.getElem_cons_zero] at h0
    rw [h0, Option.bind_some, loadN_cells (l := l) (i := i + 1) (fun j hj => by
      have := h (j + 1) (by simp; omega)
      rw [show off + (i + 1) + j = off + i + (j + 1) by omega]
      simpa using this)]
    simp
theorem Rws.at {H : Heap} {sz : Nat} {x : Value} {l : List (List Value)} (h : Rws H sz x l) {i : Nat} (hi : i < l.length) :
    ∃ b off c, x = .slice (some ⟨b, off, none⟩) l.length c ∧ l[i].length = sz ∧ H.loadN ⟨b, off + i * sz, none⟩ 0 sz = some l[i] ∧ ∀ j (hj : j < l[i].length), H.load ⟨b, off + i * sz + j, none⟩ = some l[i][j] := by
  rcases h with ⟨rfl, rfl⟩ | ⟨b, off, c, rfl, h⟩
  · simp at hi
  · obtain ⟨h1, h2⟩ := h i hi
    refine ⟨b, off, c, rfl, h1, ?_, h2⟩
    have := loadN_cells (H := H) (b := b) (off := off + i * sz) (l := l[i]) (i := 0) (fun j hj => by rw [Nat.add_zero]; exact h2 j hj)
    rw [h1] at this
    exact this
theorem Rws.keep {H H' : Heap} (hw : H.WF) (hb : H'.base = H.base) (hk : ∀ b, b < H.next → H'.blk b = H.blk b) {sz : Nat} {x : Value} {l : List (List Value)} (h : Rws H sz x l) : Rws H' sz x l := by
  rcases h with h | ⟨b, off, c, rfl, h⟩
  · exact .inl h
  · exact .inr ⟨b, off, c, rfl, fun i hi => ⟨(h i hi).1, fun j hj => load_keepN hw hb hk ((h i hi).2 j hj)⟩⟩
theorem flatten_get {sz : Nat} : ∀ {l : List (List Value)}, (∀ r ∈ l, r.length = sz) → ∀ {i : Nat} (hi : i < l.length) {j : Nat} (hj : j < l[i].length), l.flatten[i * sz + j]? = some l[i][j]
  | a :: l, hs, 0, hi, j, hj => by
    have hj' : j < a.length := hj
    rw [List.flatten_cons, Nat.zero_mul, Nat.zero_add, List.getElem?_append_left hj', List.getElem?_eq_getElem hj']
    rfl
  | a :: l, hs, i + 1, hi, j, hj => by
    have ha := hs a (by simp)
    have hi' : i < l.length := by simp at hi; omega
    have hj' : j < l[i].length := hj
    rw [List.flatten_cons, List.getElem?_append_right (by rw [ha, Nat.add_mul]; omega), ha, show (i + 1) * sz + j - sz = i * sz + j by rw [Nat.add_mul]; omega]
    exact flatten_get (fun r hr => hs r (by simp [hr])) hi' hj'
theorem flatten_len {sz : Nat} {l : List (List Value)} (hs : ∀ r ∈ l, r.length = sz) : l.flatten.length = l.length * sz := by
  induction l with
  | nil => simp
  | cons a l ih =>
    rw [List.flatten_cons, List.length_append, ih (fun r hr => hs r (by simp [hr])), hs a (by simp), List.length_cons, Nat.add_mul]; omega
theorem Own.rws {H : Heap} {ety sz : Nat} {l : List (List Value)} {x : Value} (hs : ∀ r ∈ l, r.length = sz) (h : Own H ety sz l.length l.flatten x) : Rws H sz x l := by
  rcases h.2 with ⟨rfl, h0⟩ | ⟨b, rest, rfl, hB, hk⟩
  · exact .inl ⟨rfl, List.length_eq_zero_iff.1 h0⟩
  · refine .inr ⟨b, 0, 0, rfl, fun i hi => ⟨hs _ (List.getElem_mem hi), fun j hj => ?_⟩⟩
    have hz : 0 < sz := by have := hs _ (List.getElem_mem hi); omega
    rw [load_at hB hk, Nat.zero_add]
    have := flatten_get hs hi hj
    simp only
    rw [List.getElem?_append_left ?_, this]
    have h2 := (List.getElem?_eq_some_iff.1 this).1
    exact h2
/-- A variable that holds a row. -/
theorem new_storeA {H : Heap} (hw : H.WF) (ty n : Nat) (zs l : List Value) (hz : zs.length = n) (hl : l.length = n) (h0 : 0 < n) : sStore (H.new ty n zs) n (.pointer (some ⟨H.next, 0, none⟩)) (.agg l.toArray) = some (H.new ty n l) := by
  have hnB := hw.next_ge
  rw [sStore_agg _ _ _ _ hl h0, storeN_at (k := ⟨ty, n, zs⟩) (by simpa using hnB) (by simp) (by simp; omega)]
  simp only [Nat.zero_add, List.take_zero, List.nil_append, hl]
  have e : zs.drop n = [] := List.drop_eq_nil_of_le (by omega)
  rw [new_put, e, List.append_nil]
theorem new_loadA {H : Heap} (hw : H.WF) (ty n : Nat) (l : List Value) (hl : l.length = n) (hz : 0 < n := by first | exact Nat.succ_pos _ | assumption | (simp; done) | (simp; omega)) : (H.new ty n l).loadN ⟨H.next, 0, none⟩ 0 n = some l := by
  have hnB := hw.next_ge
  rw [loadN_at (k := ⟨ty, n, l⟩) (by simpa using hnB) (by simp) (by simp; omega)]
  simp only [Nat.add_zero, List.drop_zero]
  rw [List.take_of_length_le (by omega)]
theorem new_load {H : Heap} (hw : H.WF) (ty n : Nat) (l : List Value) (off : Nat) (hz : 0 < n := by first | exact Nat.succ_pos _ | assumption | (simp; done) | (simp; omega)) : (H.new ty n l).load ⟨H.next, off, none⟩ = l[off]? := by
  have hnB := hw.next_ge
  rw [load_at (k := ⟨ty, n, l⟩) (by simpa using hnB) (by simp)]

/-! ### what came in, by its type -/
open Go.ChangeShapes Go.WideShapes Go.ChangeAt
/-- What may be read of these cells, by the type (in depth n). -/
def Rd (P : Program) (H : Heap) : Nat → TypeId → List Value → Prop
  | 0, _, _ => False
  | n + 1, t, cs => match P.underlying t with
    | some .bool => ∃ b, cs = [.bool b]
    | some (.int k) => ∃ m, cs = [.int k m] ∧ (Lit.int k m).wf = true
    | some .string => ∃ s : ByteArray, cs = [.string s] ∧ s.size ≤ maxLen
    | some (.slice e) => ∃ x, cs = [x] ∧ (x = .slice none 0 0 ∨ ∃ b off m c, x = .slice (some ⟨b, off, none⟩) m c ∧ m ≤ maxLen ∧
        ∀ i, i < m → b < H.B ∧ ∃ ds : List Value, ds.length = P.cellsOf e ∧ (∀ j (h : j < ds.length), H.load ⟨b, off + i * P.cellsOf e + j, none⟩ = some ds[j]) ∧ Rd P H n e ds)
    | some (.struct fs) => cs.length = P.cellsOf t ∧ ∀ f ∈ fs.toList, Rd P H n f.type ((cs.drop f.offset).take (P.cellsOf f.type))
    | _ => False
/-- Of such a type all can be read. -/
def goodT (P : Program) : Nat → TypeId → Bool
  | 0, _ => false
  | n + 1, t => match P.underlying t with
    | some .bool => true
    | some (.int _) => true
    | some .string => true
    | some (.slice e) => decide (0 < P.cellsOf e) && goodT P n e
    | some (.struct fs) => fs.toList.all (fun f => goodT P n f.type) && (List.range (P.cellsOf t)).all (fun i => fs.toList.any fun f => decide (f.offset ≤ i) && decide (i < f.offset + P.cellsOf f.type))
    | _ => false
theorem load_in {W : World} {b off : Nat} {v : Value} (hb : b < W.heap.size) (hc : W.cell? ⟨b, off, none⟩ = some v) (hx : extOk W.heap.size v = true) : (H0 W).load ⟨b, off, none⟩ = some (absV v) := by
  have hB : b < (H0 W).B := hb
  simp only [Heap.load]
  rw [if_pos hB]
  show (W.cell? ⟨b, off, none⟩).bind _ = _
  rw [hc, Option.bind_some]
  have : extOk (H0 W).B v = true := hx
  rw [if_pos this]
theorem rd_of_trod {H : Type} {enc : TypeId × Value → H} {P : Program} {W : World} {sp : Nat → Bool} {hd : Bool} : ∀ (m : Nat) (t : TypeId) (fuel : Nat) (cs : List Value) (x : DataW H × List MemPlace),
    goodT P m t = true → DataW.trod enc P W 0 sp hd fuel t cs = some x → (∀ c ∈ cs, extOk W.heap.size c = true) ∧ Rd P (H0 W) m t (cs.map absV)
  | 0, _, _, _, _, h, _ => by simp [goodT] at h
  | m + 1, t, fuel, cs, x, hg, h => by
    simp only [goodT] at hg
    simp only [Rd]
    cases ht : P.underlying t with
    | none => simp [ht] at hg
    | some d =>
      cases d with
      | bool =>
        obtain ⟨b, rfl, _⟩ := DataW.trod_bool ht h
        exact ⟨by simp [extOk], b, rfl⟩
      | int k =>
        obtain ⟨n, rfl, _, hw⟩ := DataW.trod_int ht h
        exact ⟨by simp [extOk], n, rfl, hw⟩
      | string =>
        obtain ⟨s, rfl, _, hs⟩ := DataW.trod_string ht h
        exact ⟨by simp [extOk], s, rfl, hs⟩
      | slice e =>
        simp only [ht, Bool.and_eq_true, decide_eq_true_eq] at hg
        obtain ⟨he, hge⟩ := hg
        rcases DataW.trod_slice ht h with ⟨rfl, _⟩ | ⟨a, len, cap, elems, rest, n, _, rfl, _, _, hl, hmx, hlen, hel, _, _⟩
        · exact ⟨by simp [extOk], _, rfl, .inl rfl⟩
        · by_cases h0 : len = 0
          · subst h0
            refine ⟨by simp [extOk], _, rfl, .inr ⟨0, 0, 0, 2, by simp [absV], Nat.zero_le _, fun i hi => absurd hi (by omega)⟩⟩
          · have each : ∀ i, i < len → ∃ cs', W.cells? 0 (a.add (i * P.cellsOf e)) (P.cellsOf e) = some cs' ∧ ∃ y, DataW.trod enc P W 0 sp hd n e cs' = some y := by
              intro i hi
              have := hel i hi
              rw [List.getElem?_eq_getElem (by omega), Option.bind_eq_some_iff] at this
              obtain ⟨cs', h1, h2⟩ := this
              exact ⟨cs', h1, _, h2⟩
            obtain ⟨c0, hc0, _⟩ := each 0 (by omega)
            rw [Nat.zero_mul] at hc0
            have hblk := World.cells?_block hc0 he
            have hc1 := (World.cells?_some hc0)
            obtain ⟨b, off, spot⟩ := a
            have hb : b < W.heap.size := by simpa [Addr.add] using hblk
            have hsp : spot = none := by
              have h2 := hc1.2.2 0 he
              rw [List.getElem?_eq_getElem (by omega)] at h2
              cases spot with
              | none => rfl
              | some s =>
                simp only [Addr.add, if_true, World.cell?] at h2
                split at h2 <;> simp at h2
            subst hsp
            refine ⟨by simp [extOk, hb, hl], _, rfl, .inr ⟨b, off, len, 2, by simp [absV, h0], Nat.le_trans hl hmx, fun i hi => ⟨hb, ?_⟩⟩⟩
            obtain ⟨cs', h1, y, h2⟩ := each i hi
            obtain ⟨_, h3, h4⟩ := World.cells?_some h1
            obtain ⟨h5, h6⟩ := rd_of_trod m e n cs' y hge h2
            refine ⟨cs'.map absV, by simpa using h3, fun j hj => ?_, h6⟩
            have hj' : j < cs'.length := by simpa using hj
            have h7 := h4 j (by omega)
            rw [add_own, add_own, List.getElem?_eq_getElem hj'] at h7
            rw [load_in hb h7 (h5 _ (List.getElem_mem hj'))]
            simp
      | struct fs =>
        simp only [ht, Bool.and_eq_true, List.all_eq_true] at hg
        obtain ⟨hgf, hcov⟩ := hg
        obtain ⟨xs, n, _, _, hlen, hxs, hf⟩ := DataW.trod_struct ht h
        have each : ∀ f ∈ fs.toList, (∀ c ∈ (cs.drop f.offset).take (P.cellsOf f.type), extOk W.heap.size c = true) ∧ Rd P (H0 W) m f.type (((cs.drop f.offset).take (P.cellsOf f.type)).map absV) := by
          intro f hfm
          obtain ⟨i, hi, hfi⟩ := List.mem_iff_getElem.1 hfm
          have hi' : i < fs.size := by simpa using hi
          have h1 := hf i f (by rw [Array.getElem?_eq_getElem hi']; simpa using hfi)
          rw [List.getElem?_eq_getElem (by omega)] at h1
          exact rd_of_trod m f.type n _ _ (hgf f hfm) h1
        refine ⟨?_, by simpa using hlen, ?_⟩
        · intro c hc
          obtain ⟨i, hi, rfl⟩ := List.mem_iff_getElem.1 hc
          have h1 := hcov i (by simp; omega)
          rw [List.any_eq_true] at h1
          obtain ⟨f, hfm, h2⟩ := h1
          simp only [Bool.and_eq_true, decide_eq_true_eq] at h2
          refine (each f hfm).1 _ (List.mem_iff_getElem.2 ⟨i - f.offset, by simp; omega, ?_⟩)
          simp [show f.offset + (i - f.offset) = i by omega]
        · intro f hfm
          have := (each f hfm).2
          rw [List.map_take, List.map_drop] at this
          exact this
      | _ => simp [ht] at hg
/-- An argument that is a slice. -/
theorem open_slice {H : Type} {enc : TypeId × Value → H} {P : Program} {W : World} {base : Nat} {t e : TypeId} {v : Value} {d : DataW H} {p : List MemPlace} (m : Nat)
    (ht : P.underlying t = some (.slice e)) (hg : goodT P m t = true) (hval : Value.okWide P W .any base t v) (hd : DataW.Trod enc P W 0 (fun _ => true) true t v d p) :
    ∃ x, Rd P (H0 W) m t [x] ∧ r3 ((H0 W).cx (fun _ => (0, 0))) x v := by
  obtain ⟨a0, len, cap, rfl⟩ := okWide_slice ht hval
  obtain ⟨fuel, hf⟩ := hd
  obtain ⟨h1, h2⟩ := rd_of_trod m t fuel _ _ hg hf
  refine ⟨_, h2, ?_⟩
  have hx := h1 (.slice a0 len cap) (by simp [Value.cells])
  cases a0 with
  | none => rfl
  | some a =>
    have hok : a.block < W.heap.size := by
      have h := hval
      simp only [Value.okWide, ht, Cell.okWide, Cell.ok] at h
      obtain ⟨_, _, _, h2, row, cells, h3, _⟩ := h
      unfold World.shape? at h3
      cases hb : W.heap[a.block]? with
      | none => simp [hb] at h3
      | some o => exact (Array.getElem?_eq_some_iff.1 hb).1
    have hr : r0 ((H0 W).cx (fun _ => (0, 0))) (absV (.slice (some a) len cap)) (.slice (some a) len cap) := extOk_self (c := (H0 W).cx (fun _ => (0, 0))) (Nat.lt_of_le_of_lt (Nat.zero_le _) hok) hx
    by_cases h0 : len = 0
    · subst h0; exact hr
    · have e : absV (.slice (some a) len cap) = .slice (some a) len 2 := by simp [absV, h0]
      rw [e] at hr ⊢
      exact hr
theorem cell_r {P : Program} {W : World} {base : Nat} {u : TypeId} {c : Value} (hk : Cell.okWide P W .any base u c) (hx : extOk W.heap.size c = true) : r1 ((H0 W).cx (fun _ => (0, 0))) (absV c) c := by
  refine r1_of_r0 ?_
  cases c with
  | slice a n k =>
    cases a with
    | none => rfl
    | some a =>
      refine extOk_self (c := (H0 W).cx (fun _ => (0, 0))) ?_ hx
      simp only [Cell.okWide, Cell.ok] at hk
      cases hu : P.underlying u with
      | none => simp [hu] at hk
      | some d =>
        cases d with
        | slice e =>
          simp only [hu] at hk
          obtain ⟨_, _, _, _, row, cells, h3, _⟩ := hk
          unfold World.shape? at h3
          cases hb : W.heap[a.block]? with
          | none => simp [hb] at h3
          | some o => exact Nat.lt_of_le_of_lt (Nat.zero_le _) (Array.getElem?_eq_some_iff.1 hb).1
        | _ => simp [hu] at hk
  | pointer a =>
    cases a with
    | none => rfl
    | some a =>
      simp only [extOk, decide_eq_true_eq] at hx
      exact extOk_self (c := (H0 W).cx (fun _ => (0, 0))) (Nat.lt_of_le_of_lt (Nat.zero_le _) hx) (decide_eq_true hx)
  | map m =>
    cases m with
    | none => rfl
    | some m =>
      simp only [extOk, decide_eq_true_eq] at hx
      exact extOk_self (c := (H0 W).cx (fun _ => (0, 0))) (Nat.lt_of_le_of_lt (Nat.zero_le _) hx) (decide_eq_true hx)
  | _ => first | rfl | (simp [extOk] at hx; done)
/-- An argument that is a struct. -/
theorem open_struct {H : Type} {enc : TypeId × Value → H} {P : Program} {W : World} {base : Nat} {t : TypeId} {fs : Array Field} {v : Value} {d : DataW H} {p : List MemPlace} (m : Nat)
    (ht : P.underlying t = some (.struct fs)) (hg : goodT P m t = true) (hval : Value.okWide P W .any base t v) (hd : DataW.Trod enc P W 0 (fun _ => true) true t v d p) :
    ∃ xs : List Value, Rd P (H0 W) m t xs ∧ r3 ((H0 W).cx (fun _ => (0, 0))) (.agg xs.toArray) v := by
  simp only [Value.okWide, ht] at hval
  obtain ⟨cs, rfl, hsz, ts, _, _, hrow⟩ := hval
  obtain ⟨fuel, hf⟩ := hd
  obtain ⟨h1, h2⟩ := rd_of_trod m t fuel _ _ hg hf
  have e : (Value.agg cs).cells.toList = cs.toList := rfl
  rw [e] at h1 h2
  refine ⟨_, h2, cs, rfl, ?_⟩
  show All2 _ (cs.toList.map absV) cs.toList
  refine All2.of_get (by simp) ?_
  intro i a b ha hb
  rw [List.getElem?_map] at ha
  have hb' : cs[i]? = some b := by simpa using hb
  rw [hb, Option.map_some, Option.some.injEq] at ha
  subst ha
  obtain ⟨u, _, hk⟩ := hrow i b hb'
  exact cell_r hk (h1 b (List.mem_of_getElem? hb))
/-! ### one step of what is read -/
theorem rd_int {P : Program} {H : Heap} {n : Nat} {t : TypeId} {k : IntKind} (ht : P.underlying t = some (.int k)) {cs : List Value} (h : Rd P H n t cs) : ∃ m, cs = [.int k m] ∧ (Lit.int k m).wf = true := by
  cases n with
  | zero => exact absurd h (by simp [Rd])
  | succ n => simpa only [Rd, ht] using h
theorem rd_bool {P : Program} {H : Heap} {n : Nat} {t : TypeId} (ht : P.underlying t = some .bool) {cs : List Value} (h : Rd P H n t cs) : ∃ b, cs = [.bool b] := by
  cases n with
  | zero => exact absurd h (by simp [Rd])
  | succ n => simpa only [Rd, ht] using h
theorem rd_string {P : Program} {H : Heap} {n : Nat} {t : TypeId} (ht : P.underlying t = some .string) {cs : List Value} (h : Rd P H n t cs) : ∃ s : ByteArray, cs = [.string s] ∧ s.size ≤ maxLen := by
  cases n with
  | zero => exact absurd h (by simp [Rd])
  | succ n => simpa only [Rd, ht] using h
theorem rd_len {P : Program} {H : Heap} {n : Nat} {t : TypeId} {fs : Array Field} (ht : P.underlying t = some (.struct fs)) {cs : List Value} (h : Rd P H n t cs) : cs.length = P.cellsOf t := by
  cases n with
  | zero => exact absurd h (by simp [Rd])
  | succ n => simp only [Rd, ht] at h; exact h.1
/-- A field of so many cells. -/
theorem rd_field {P : Program} {H : Heap} {n : Nat} {t : TypeId} {fs : Array Field} (ht : P.underlying t = some (.struct fs)) {cs : List Value} (h : Rd P H (n + 1) t cs) (i : Nat) {f : Field} (hf : fs[i]? = some f) {m : Nat} (hm : P.cellsOf f.type = m) :
    Rd P H n f.type ((cs.drop f.offset).take m) := by
  simp only [Rd, ht] at h
  rw [← hm]
  exact h.2 f (by rw [← Array.getElem?_toList] at hf; exact List.mem_of_getElem? hf)
/-- A slice whose elements have so many cells. -/
theorem rd_slice {P : Program} {H : Heap} {n : Nat} {t e : TypeId} (ht : P.underlying t = some (.slice e)) {x : Value} (h : Rd P H (n + 1) t [x]) {m : Nat} (hm : P.cellsOf e = m) :
    x = .slice none 0 0 ∨ ∃ b off k c, x = .slice (some ⟨b, off, none⟩) k c ∧ k ≤ maxLen ∧ ∀ i, i < k → b < H.B ∧ ∃ ds : List Value, ds.length = m ∧ (∀ j (h : j < ds.length), H.load ⟨b, off + i * m + j, none⟩ = some ds[j]) ∧ Rd P H n e ds := by
  simp only [Rd, ht] at h
  obtain ⟨y, hy, h⟩ := h
  cases hy
  rw [← hm]
  exact h
/-- All of a slice's elements, each as something. -/
theorem rd_all {α : Type} {H : Heap} {b off k m : Nat} {R : List Value → Prop} {Q : α → List Value → Prop} (hR : ∀ ds, R ds → ∃ a, Q a ds)
    (h : ∀ i, i < k → b < H.B ∧ ∃ ds : List Value, ds.length = m ∧ (∀ j (h : j < ds.length), H.load ⟨b, off + i * m + j, none⟩ = some ds[j]) ∧ R ds) :
    ∃ l : List α, l.length = k ∧ ∀ i (hi : i < l.length), b < H.B ∧ ∃ ds : List Value, ds.length = m ∧ (∀ j (h : j < ds.length), H.load ⟨b, off + i * m + j, none⟩ = some ds[j]) ∧ Q l[i] ds := by
  induction k with
  | zero => exact ⟨[], rfl, fun i hi => absurd hi (by simp)⟩
  | succ k ih =>
    obtain ⟨l, hl, h1⟩ := ih (fun i hi => h i (by omega))
    obtain ⟨hb, ds, h2, h3, h4⟩ := h k (by omega)
    obtain ⟨a, ha⟩ := hR ds h4
    refine ⟨l ++ [a], by simp [hl], fun i hi => ?_⟩
    by_cases hik : i < l.length
    · rw [List.getElem_append_left hik]; exact h1 i hik
    · have e : i = l.length := by simp at hi; omega
      subst e
      refine ⟨hb, ds, h2, fun j hj => by rw [hl]; exact h3 j hj, ?_⟩
      simpa using ha
theorem ints_of {P : Program} {H : Heap} {n : Nat} {t e : TypeId} {k : IntKind} (ht : P.underlying t = some (.slice e)) (he : P.underlying e = some (.int k)) (hc : P.cellsOf e = 1) {x : Value} (h : Rd P H (n + 1) t [x]) :
    ∃ l, IntsB H k x l ∧ ∀ a ∈ l, (Lit.int k a).wf = true := by
  rcases rd_slice ht h hc with rfl | ⟨b, off, m, c, rfl, _, h⟩
  · exact ⟨[], .inl ⟨rfl, rfl⟩, by simp⟩
  · obtain ⟨l, hl, h⟩ := rd_all (Q := fun a ds => ds = [.int k a] ∧ (Lit.int k a).wf = true) (fun ds h => rd_int he h) h
    refine ⟨l, .inr ⟨b, off, c, by rw [hl], fun h0 => (h 0 h0).1, fun i hi => ?_⟩, ?_⟩
    · obtain ⟨_, ds, _, h3, h4, _⟩ := h i hi
      subst h4
      have := h3 0 (by simp)
      simpa using this
    · intro a ha
      obtain ⟨i, hi, rfl⟩ := List.mem_iff_getElem.1 ha
      obtain ⟨_, _, _, _, _, h5⟩ := h i hi
      exact h5
theorem IntsB.ints {H : Heap} {k : IntKind} {x : Value} {xs : List Int} (h : IntsB H k x xs) : Ints H k x xs := by
  rcases h with h | ⟨b, off, c, h1, _, h2⟩
  · exact .inl h
  · exact .inr ⟨b, off, c, h1, h2⟩
end Go.Ot
