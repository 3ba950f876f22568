/-
  Chapter 27: an event's line, by the program.
-/
import Derived.Test.YtjkfghekdcalhaaSeatM
namespace Go.Proofs.Ytjkfghekdcalhaa
open Go.Ot
set_option linter.unusedSimpArgs false
set_option linter.unusedVariables false
theorem textK {H : Heap} (hw : H.WF) {n : Int} (hn : -9223372036854775808 ≤ n ∧ n ≤ 9223372036854775807) : T Try.prog 26 [iv n] H (.string (strB (decI n))) H := by
  obtain ⟨H', h, hk⟩ := text_T hw hn
  exact T_forget h hk rfl
theorem refTextK {H : Heap} (hw : H.WF) {n : Int} (hn : -9223372036854775808 ≤ n ∧ n ≤ 9223372036854775807) : T Try.prog 27 [iv n] H (.string (strB (decI n))) H := by
  obtain ⟨H', h, hk⟩ := refText_T hw hn
  exact T_forget h hk rfl
structure Ev where
  k : Int
  a : Int
  b : Int
  c : Int
  d : Int
  e : Int
def Ev.cells (x : Ev) : List Value := [iv x.k, iv x.a, iv x.b, iv x.c, iv x.d, iv x.e]
def fit (n : Int) : Prop := -9223372036854775808 ≤ n ∧ n ≤ 9223372036854775807
def Ev.ok (x : Ev) : Prop := fit x.k ∧ fit x.a ∧ fit x.b ∧ fit x.c ∧ fit x.d ∧ fit x.e
def nameB (k : Int) : List Nat :=
  if k = 1 then [98, 101, 103, 105, 110] else if k = 2 then [114, 101, 97, 100] else if k = 3 then [119, 114, 105, 116, 101] else if k = 4 then [101, 109, 105, 116]
  else if k = 5 then [105, 110, 116, 111] else if k = 6 then [97, 98, 111, 114, 116] else if k = 7 then [99, 111, 109, 109, 105, 116] else if k = 8 then [102, 97, 117, 108, 116] else [110, 111, 110, 101]
def numsOf (x : Ev) : List Int :=
  if x.k = 1 then [x.a, x.b] else if x.k = 2 then [x.b, x.c, x.d, x.e] else if x.k = 3 then [x.b, x.c, x.d] else if x.k = 4 then [x.b, x.d]
  else if x.k = 5 then [x.b, x.c, x.d] else if x.k = 6 then [x.b] else if x.k = 7 then [x.b] else if x.k = 8 then [x.b, x.c, x.d] else []
def SaidV (x : Ev) (H : Heap) (v : Value) (H' : Heap) : Prop :=
  ∃ y, v = .tuple #[.string (strB (nameB x.k)), y] ∧ Ints H' .i64 y (numsOf x) ∧ H'.WF ∧ H'.base = H.base ∧ H.next ≤ H'.next ∧ (∀ b, b < H.next → H'.blk b = H.blk b) ∧ ∀ b, blkOf y = some b → H.next ≤ b ∧ b < H'.next
theorem said_row {H : Heap} (hw : H.WF) (x : Ev) (l : List Int) (hl : l ≠ []) (s : ByteArray) (hs : s = strB (nameB x.k)) (hn : numsOf x = l) (m : Nat) (hml : l.length = m) :
    SaidV x H (.tuple #[.string s, .slice (some ⟨H.next + 1, 0, none⟩) m 0]) ((H.new 58 6 x.cells).new 2 1 (l.map iv)) := by
  have hnB := hw.next_ge
  refine ⟨_, by rw [hs], ?_, WF_new (WF_new hw _ _ _) _ _ _, by simp, by simp; omega, ?_, ?_⟩
  · rw [hn, ← hml]
    exact (Own.mk (H := (H.new 58 6 x.cells).new 2 1 (l.map iv)) (ety := 2) (sz := 1) (b := H.next + 1) (cells := l.map iv) (by simp) (by simp; omega) (by simp)).ints
  · intro b hb
    have m1 : b ≠ H.next := by omega
    have m2 : b ≠ H.next + 1 := by omega
    simp [m1, m2]
  · intro b hb
    simp at hb
    subst hb
    simp
theorem said_T {H : Heap} (hw : H.WF) (x : Ev) : ∃ v H', T Try.prog 25 [.agg x.cells.toArray] H v H' ∧ SaidV x H v H' := by
  refine T_by hm light25 ?_
  have hnB := hw.next_ge
  obtain ⟨HH, hHH⟩ : ∃ HH, HH = H.new 58 6 x.cells := ⟨_, rfl⟩
  have hN : HH.next = H.next + 1 := by rw [hHH]; simp
  have ld : ∀ off, HH.load ⟨H.next, off, none⟩ = x.cells[off]? := fun off => by rw [hHH]; exact new_load hw 58 6 x.cells off
  have l0 : HH.load ⟨H.next, 0, none⟩ = some (iv x.k) := ld 0
  have l1 : HH.load ⟨H.next, 1, none⟩ = some (iv x.a) := ld 1
  have l2 : HH.load ⟨H.next, 2, none⟩ = some (iv x.b) := ld 2
  have l3 : HH.load ⟨H.next, 3, none⟩ = some (iv x.c) := ld 3
  have l4 : HH.load ⟨H.next, 4, none⟩ = some (iv x.d) := ld 4
  have l5 : HH.load ⟨H.next, 5, none⟩ = some (iv x.e) := ld 5
  have hcl : (Value.agg x.cells.toArray).cells.toList = x.cells := rfl
  have z1 : zerosA [iv 0] 1 = [iv 0] := rfl
  have z2 : zerosA [iv 0] 2 = [iv 0, iv 0] := rfl
  have z3 : zerosA [iv 0] 3 = [iv 0, iv 0, iv 0] := rfl
  have z4 : zerosA [iv 0] 4 = [iv 0, iv 0, iv 0, iv 0] := rfl
  have row : ∀ (l : List Int), l ≠ [] → ∀ (s : ByteArray), s = strB (nameB x.k) → numsOf x = l → ∀ m, l.length = m → SaidV x H (.tuple #[.string s, .slice (some ⟨H.next + 1, 0, none⟩) m 0]) (HH.new 2 1 (l.map iv)) := by
    intro l hl s hs hn m hml
    rw [hHH]
    exact said_row hw x l hl s hs hn m hml
  simp only [L25]
  by_cases h1 : x.k = 1
  · simp [hcl, ← hHH, hN, l0, l1, l2, l3, l4, l5, z1, z2, z3, z4, h1]
    exact ⟨rfl, row [x.a, x.b] (by simp) _ (by rw [h1]; rfl) (by simp [numsOf, h1]) 2 rfl⟩
  by_cases h2 : x.k = 2
  · simp [hcl, ← hHH, hN, l0, l1, l2, l3, l4, l5, z1, z2, z3, z4, h2]
    exact ⟨rfl, row [x.b, x.c, x.d, x.e] (by simp) _ (by rw [h2]; rfl) (by simp [numsOf, h2]) 4 rfl⟩
  by_cases h3 : x.k = 3
  · simp [hcl, ← hHH, hN, l0, l1, l2, l3, l4, l5, z1, z2, z3, z4, h3]
    exact ⟨rfl, row [x.b, x.c, x.d] (by simp) _ (by rw [h3]; rfl) (by simp [numsOf, h3]) 3 rfl⟩
  by_cases h4 : x.k = 4
  · simp [hcl, ← hHH, hN, l0, l1, l2, l3, l4, l5, z1, z2, z3, z4, h4]
    exact ⟨rfl, row [x.b, x.d] (by simp) _ (by rw [h4]; rfl) (by simp [numsOf, h4]) 2 rfl⟩
  by_cases h5 : x.k = 5
  · simp [hcl, ← hHH, hN, l0, l1, l2, l3, l4, l5, z1, z2, z3, z4, h5]
    exact ⟨rfl, row [x.b, x.c, x.d] (by simp) _ (by rw [h5]; rfl) (by simp [numsOf, h5]) 3 rfl⟩
  by_cases h6 : x.k = 6
  · simp [hcl, ← hHH, hN, l0, l1, l2, l3, l4, l5, z1, z2, z3, z4, h6]
    exact ⟨rfl, row [x.b] (by simp) _ (by rw [h6]; rfl) (by simp [numsOf, h6]) 1 rfl⟩
  by_cases h7 : x.k = 7
  · simp [hcl, ← hHH, hN, l0, l1, l2, l3, l4, l5, z1, z2, z3, z4, h7]
    exact ⟨rfl, row [x.b] (by simp) _ (by rw [h7]; rfl) (by simp [numsOf, h7]) 1 rfl⟩
  by_cases h8 : x.k = 8
  · simp [hcl, ← hHH, hN, l0, l1, l2, l3, l4, l5, z1, z2, z3, z4, h8]
    exact ⟨rfl, row [x.b, x.c, x.d] (by simp) _ (by rw [h8]; rfl) (by simp [numsOf, h8]) 3 rfl⟩
  simp [hcl, ← hHH, hN, l0, l1, l2, l3, l4, l5, z1, z2, z3, z4, h1, h2, h3, h4, h5, h6, h7, h8]
  refine ⟨rfl, _, by rw [show strB (nameB x.k) = strB [110, 111, 110, 101] by simp [nameB, h1, h2, h3, h4, h5, h6, h7, h8]]; rfl, .inl ⟨rfl, by simp [numsOf, h1, h2, h3, h4, h5, h6, h7, h8]⟩, by rw [hHH]; exact WF_new hw _ _ _, by rw [hHH]; simp, by omega, fun b hb => ?_, fun b hb => (by cases hb)⟩
  have m1 : b ≠ H.next := by omega
  rw [hHH]
  simp [m1]
def lineB (x : Ev) : List Nat := nameB x.k ++ ((numsOf x).flatMap fun n => 32 :: decI n) ++ [10]
theorem nameB_len (k : Int) : 0 < (nameB k).length ∧ (nameB k).length ≤ 6 := by
  unfold nameB
  repeat' split
  all_goals simp
theorem numsOf_len (x : Ev) : (numsOf x).length ≤ 4 := by
  unfold numsOf
  repeat' split
  all_goals simp
theorem flat_len : ∀ l : List Int, (l.flatMap fun n => 32 :: decI n).length ≤ 22 * l.length
  | [] => by simp
  | n :: l => by
    have := flat_len l
    have := decI_len n
    simp only [List.flatMap_cons, List.length_append, List.length_cons]
    omega
theorem lineB_len (x : Ev) : (lineB x).length ≤ 100 := by
  have h1 := nameB_len x.k
  have h2 := numsOf_len x
  have h3 := flat_len (numsOf x)
  simp only [lineB, List.length_append, List.length_singleton]
  omega
end Go.Proofs.Ytjkfghekdcalhaa
