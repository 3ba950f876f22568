/-
  Chapter 22: what an attempt keeps; the search in a row.
-/
import Derived.Test.YtjpdoflmjokplaaOtZ
import Derived.Test.YtjpdoflmjokplaaSeatL
namespace Go.Proofs.Ytjpdoflmjokplaa
open Go.Ot
set_option linter.unusedSimpArgs false
set_option linter.unusedVariables false
theorem hm : Try.prog.follows .mixedOrders = true := by kernel_rfl
abbrev ptr (p : Nat) : Value := .pointer (some ⟨p, 0, none⟩)
abbrev sl (b n : Nat) : Value := .slice (some ⟨b, 0, none⟩) n 0
abbrev iv (n : Int) : Value := .int .i64 n
def okI (n : Int) : Prop := -9223372036854775808 ≤ n ∧ n ≤ 9223372036854775807
/-- The first row for which something is so; -1: none. -/
def fIdx (is : List Value → Bool) : List (List Value) → Int
  | [] => -1
  | r :: l => if is r then 0 else if fIdx is l < 0 then -1 else fIdx is l + 1
theorem fIdx_ge (is : List Value → Bool) (l : List (List Value)) : -1 ≤ fIdx is l ∧ fIdx is l < l.length := by
  induction l with
  | nil => simp [fIdx]
  | cons r l ih =>
    simp only [fIdx, List.length_cons]
    split
    · omega
    · split <;> omega
theorem fIdx_drop (is : List Value → Bool) : ∀ (l : List (List Value)) (i : Nat), i ≤ l.length → (∀ j (h : j < l.length), j < i → is l[j] = false) → fIdx is l = if fIdx is (l.drop i) < 0 then -1 else fIdx is (l.drop i) + i
  | l, 0, _, _ => by
    have := fIdx_ge is l
    simp only [List.drop_zero]
    split <;> omega
  | [], i + 1, h, _ => by simp at h
  | r :: l, i + 1, h, hf => by
    have h0 := hf 0 (by simp) (by omega)
    simp only [List.getElem_cons_zero] at h0
    have ih := fIdx_drop is l i (by simpa using h) (fun j hj hji => by
      have := hf (j + 1) (by simpa using hj) (by omega)
      simpa using this)
    have hg := fIdx_ge is (l.drop i)
    simp only [fIdx, h0, List.drop_succ_cons]
    rw [ih]
    simp
    split
    · simp
    · split <;> omega
/-- Such a function value says of each row whether something is so, in whatever comes behind. -/
def Says (H : Heap) (f : Value) (is : List Value → Bool) (l : List (List Value)) : Prop :=
  ∀ H1 : Heap, H1.WF → H1.base = H.base → H.next ≤ H1.next → (∀ b, b < H.next → H1.blk b = H.blk b) → ∀ r ∈ l, ∃ H2, TV Try.prog f [.agg r.toArray] H1 (.bool (is r)) H2 ∧ Same H1 H2 []
theorem TV.grow {P : Program} {x : Value} {args : List Value} {H H' : Heap} {v : Value} (h : TV P x args H v H') (hw : H.WF) : H'.base = H.base ∧ H.next ≤ H'.next ∧ H'.WF := by
  obtain ⟨f, c, _, _, _, hT⟩ := h
  exact ⟨hT.1, hT.2.1, hT.2.2.1 hw⟩
def InvFd (H : Heap) (x f : Value) (is : List Value → Bool) (l : List (List Value)) (k : Nat) (t : Tm) (H1 : Heap) : Prop :=
  ∃ i, i + k = l.length ∧ t 1 = f ∧ t 7 = x ∧ t 8 = iv (l.length : Nat) ∧ t 9 = iv (i : Nat) ∧ (∀ j (h : j < l.length), j < i → is l[j] = false) ∧ H1.WF ∧ H1.base = H.base ∧ H.next ≤ H1.next ∧ ∀ b, b < H.next → H1.blk b = H.blk b
theorem find3_T {H : Heap} (hw : H.WF) {x f : Value} {l : List (List Value)} (hx : Rws H 3 x l) (is : List Value → Bool) (hf : Says H f is l) (hl : l.length ≤ 100000) :
    ∃ v H', T Try.prog 23 [x, f] H v H' ∧ v = iv (fIdx is l) ∧ Same H H' [] := by
  refine T_by hm light23 ?_
  obtain ⟨xa, xc, hxl⟩ := hx.len
  rw [hxl]
  simp [L23]
  rw [← hxl]
  refine loop_at (InvFd H x f is l) l.length ?_ ?_
  · exact ⟨0, by omega, by simp, by simp, by simp, by simp, fun j _ h => absurd h (by omega), hw, rfl, Nat.le_refl _, fun _ _ => rfl⟩
  · rintro k t H1 ⟨i, hik, t1, t7, t8, t9, hno, w1, b1, n1, o1⟩
    cases k with
    | zero =>
      have e0 : i = l.length := by omega
      subst e0
      have e1 : fIdx is l = -1 := by
        rw [fIdx_drop is l l.length (Nat.le_refl _) hno, List.drop_length]
        simp [fIdx]
      simp [L23_1, t8, t9, e1]
      exact fun b hb _ => o1 b hb
    | succ k =>
      have hi : i < l.length := by omega
      obtain ⟨b, off, c, hxs, hlen, ld, _⟩ := (hx.keep hw b1 o1).at hi
      have e3 : IntKind.i64.wrap ((i : Int) + 1) = ((i + 1 : Nat) : Int) := by rw [w64 _ (by omega)]; omega
      obtain ⟨i1, hi1⟩ : ∃ i1, i1 = i + 1 := ⟨_, rfl⟩
      rw [← hi1] at e3
      have st := new_storeA w1 29 3 [.int .i64 0, .int .i64 0, .int .i64 0] l[i] rfl hlen (by decide)
      have lda := new_loadA w1 29 3 l[i] hlen
      obtain ⟨H2, hH2⟩ : ∃ H2, H2 = H1.new 29 3 l[i] := ⟨_, rfl⟩
      have w2 : H2.WF := by rw [hH2]; exact WF_new w1 _ _ _
      have n2 : H2.next = H1.next + 1 := by rw [hH2]; rfl
      have o2 : ∀ b, b < H.next → H2.blk b = H.blk b := fun b hb => by rw [hH2]; simp [show b ≠ H1.next by omega]; exact o1 b hb
      have b2 : H2.base = H.base := by rw [hH2]; exact b1
      rw [← hH2] at st lda
      obtain ⟨H3, T3, s3⟩ := hf H2 w2 b2 (by omega) o2 _ (List.getElem_mem hi)
      obtain ⟨b3, n3, w3⟩ := TV.grow T3 w2
      have o3 : ∀ b, b < H.next → H3.blk b = H.blk b := fun b hb => (s3 b (by omega) (by simp)).trans (o2 b hb)
      simp [L23_1, t1, t7, t8, t9, hxs, hi, ld, st, lda]
      refine goTV_of T3 ?_
      cases his : is l[i] with
      | true =>
        have e1 : fIdx is l = i := by
          rw [fIdx_drop is l i (by omega) hno, List.drop_eq_getElem_cons hi]
          simp [fIdx, his]
        simp [e1]
        exact fun b hb _ => o3 b hb
      | false =>
        simp [t9, e3]
        refine ⟨k, Nat.lt_succ_self k, i1, by omega, by simp [t1], by simp [t7, hxs], by simp [t8], by simp, ?_, w3, b3.trans b2, by simp; omega, o3⟩
        intro j hj hji
        by_cases hje : j = i
        · subst hje; exact his
        · exact hno j hj (by omega)
theorem find2_T {H : Heap} (hw : H.WF) {x f : Value} {l : List (List Value)} (hx : Rws H 2 x l) (is : List Value → Bool) (hf : Says H f is l) (hl : l.length ≤ 100000) :
    ∃ v H', T Try.prog 48 [x, f] H v H' ∧ v = iv (fIdx is l) ∧ Same H H' [] := by
  refine T_by hm light48 ?_
  obtain ⟨xa, xc, hxl⟩ := hx.len
  rw [hxl]
  simp [L48]
  rw [← hxl]
  refine loop_at (InvFd H x f is l) l.length ?_ ?_
  · exact ⟨0, by omega, by simp, by simp, by simp, by simp, fun j _ h => absurd h (by omega), hw, rfl, Nat.le_refl _, fun _ _ => rfl⟩
  · rintro k t H1 ⟨i, hik, t1, t7, t8, t9, hno, w1, b1, n1, o1⟩
    cases k with
    | zero =>
      have e0 : i = l.length := by omega
      subst e0
      have e1 : fIdx is l = -1 := by
        rw [fIdx_drop is l l.length (Nat.le_refl _) hno, List.drop_length]
        simp [fIdx]
      simp [L48_1, t8, t9, e1]
      exact fun b hb _ => o1 b hb
    | succ k =>
      have hi : i < l.length := by omega
      obtain ⟨b, off, c, hxs, hlen, ld, _⟩ := (hx.keep hw b1 o1).at hi
      have e3 : IntKind.i64.wrap ((i : Int) + 1) = ((i + 1 : Nat) : Int) := by rw [w64 _ (by omega)]; omega
      obtain ⟨i1, hi1⟩ : ∃ i1, i1 = i + 1 := ⟨_, rfl⟩
      rw [← hi1] at e3
      have st := new_storeA w1 92 2 [.int .i64 0, .int .i64 0] l[i] rfl hlen (by decide)
      have lda := new_loadA w1 92 2 l[i] hlen
      obtain ⟨H2, hH2⟩ : ∃ H2, H2 = H1.new 92 2 l[i] := ⟨_, rfl⟩
      have w2 : H2.WF := by rw [hH2]; exact WF_new w1 _ _ _
      have n2 : H2.next = H1.next + 1 := by rw [hH2]; rfl
      have o2 : ∀ b, b < H.next → H2.blk b = H.blk b := fun b hb => by rw [hH2]; simp [show b ≠ H1.next by omega]; exact o1 b hb
      have b2 : H2.base = H.base := by rw [hH2]; exact b1
      rw [← hH2] at st lda
      obtain ⟨H3, T3, s3⟩ := hf H2 w2 b2 (by omega) o2 _ (List.getElem_mem hi)
      obtain ⟨b3, n3, w3⟩ := TV.grow T3 w2
      have o3 : ∀ b, b < H.next → H3.blk b = H.blk b := fun b hb => (s3 b (by omega) (by simp)).trans (o2 b hb)
      simp [L48_1, t1, t7, t8, t9, hxs, hi, ld, st, lda]
      refine goTV_of T3 ?_
      cases his : is l[i] with
      | true =>
        have e1 : fIdx is l = i := by
          rw [fIdx_drop is l i (by omega) hno, List.drop_eq_getElem_cons hi]
          simp [fIdx, his]
        simp [e1]
        exact fun b hb _ => o3 b hb
      | false =>
        simp [t9, e3]
        refine ⟨k, Nat.lt_succ_self k, i1, by omega, by simp [t1], by simp [t7, hxs], by simp [t8], by simp, ?_, w3, b3.trans b2, by simp; omega, o3⟩
        intro j hj hji
        by_cases hje : j = i
        · subst hje; exact his
        · exact hno j hj (by omega)
end Go.Proofs.Ytjpdoflmjokplaa
