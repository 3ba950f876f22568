/-
  Chapter 27: a number's text, by both.
-/
import Derived.Test.YtjkfghekdcalhaaSeatN
namespace Go.Proofs.Ytjkfghekdcalhaa
open Go.Ot
set_option linter.unusedSimpArgs false
set_option linter.unusedVariables false
/-- A text of bytes. -/
def strB (l : List Nat) : ByteArray := strOfNums (l.map fun (b : Nat) => (b : Int))
theorem strB_size (l : List Nat) : (strB l).size = l.length := by simp [strB, strOfNums_size]
theorem strB_append (a b : List Nat) : strB a ++ strB b = strB (a ++ b) := by
  apply ByteArray.ext
  apply Array.toList_inj.1
  simp [strB, strOfNums]
theorem strB_nil : strB [] = ByteArray.empty := rfl
abbrev bv (n : Nat) : Value := .int .u8 (n : Int)
theorem byteNums_bv (l : List Nat) : byteNums (l.map bv) = some (l.map fun (b : Nat) => (b : Int)) := by
  have : l.map bv = (l.map fun (b : Nat) => (b : Int)).map (Value.int .u8) := by simp [List.map_map, Function.comp_def]
  rw [this, byteNums_map]
def decF : Nat → Nat → List Nat
  | 0, _ => []
  | f + 1, u => (if u / 10 = 0 then [] else decF f (u / 10)) ++ [48 + u % 10]
/-- Decimal digits. -/
def decN (u : Nat) : List Nat := decF 20 u
def decI (a : Int) : List Nat := if a < 0 then 45 :: decN a.natAbs else decN a.natAbs
theorem decF_len : ∀ (f u : Nat), (decF f u).length ≤ f
  | 0, _ => by simp [decF]
  | f + 1, u => by
    simp only [decF, List.length_append, List.length_singleton]
    split
    · simp
    · have := decF_len f (u / 10); omega
theorem decI_len (a : Int) : (decI a).length ≤ 21 := by
  have := decF_len 20 a.natAbs
  unfold decI decN
  split <;> simp <;> omega
theorem decF_byte : ∀ (f u : Nat), ∀ d ∈ decF f u, d < 128
  | 0, _, d, h => by simp [decF] at h
  | f + 1, u, d, h => by
    simp only [decF, List.mem_append, List.mem_singleton] at h
    rcases h with h | h
    · split at h
      · cases h
      · exact decF_byte f _ d h
    · omega
theorem rep_set (k : Nat) (z d : Value) (S : List Value) : (List.replicate (k + 1) z ++ S).set k d = List.replicate k z ++ (d :: S) := by
  rw [List.set_append_left _ _ (by simp)]
  rw [List.replicate_succ', List.set_append_right _ _ (by simp)]
  simp

def InvTx (H : Heap) (n : Int) (u0 : Nat) (k : Nat) (t : Tm) (H1 : Heap) : Prop :=
  ∃ (u : Nat) (S : List Nat), k + S.length = 20 ∧ t 0 = iv n ∧ t 3 = .pointer (some ⟨H.next, 0, none⟩) ∧ t 4 = iv k ∧ t 5 = uv u ∧ H1 = H.new 103 20 (List.replicate k (.int .u8 0) ++ S.map bv) ∧
    decF k u ++ S = decN u0 ∧ 1 ≤ k ∧ u < 10 ^ (k - 1) ∧ (k = 20 ∨ u ≠ 0)
theorem text_fin {H : Heap} (hw : H.WF) (j : Nat) (S : List Nat) (h : j + S.length = 20) :
    sSliceArr 20 1 (.pointer (some ⟨H.next, 0, none⟩)) (some (iv j)) none none = some (.slice (some ⟨H.next, j, none⟩) S.length 1) ∧
    sToStr (H.new 103 20 (List.replicate j (.int .u8 0) ++ S.map bv)) (.slice (some ⟨H.next, j, none⟩) S.length 1) = some (.string (strB S)) := by
  have hnB := hw.next_ge
  constructor
  · have e : 20 - j = S.length := by omega
    simp [sSliceArr, bnd, add_own, e]
    omega
  · have fin : (H.new 103 20 (List.replicate j (.int .u8 0) ++ S.map bv)).loadN ⟨H.next, j, none⟩ 0 S.length = some (S.map bv) := by
      rw [loadN_at (k := ⟨103, 20, List.replicate j (.int .u8 0) ++ S.map bv⟩) (by simpa using hnB) (by simp) (by simp)]
      simp only [Nat.add_zero]
      rw [List.drop_left' (by simp), List.take_of_length_le (by simp)]
    simp only [sToStr, fin, Option.bind_some, byteNums_bv, Option.map_some]
    rfl
theorem text_T {H : Heap} (hw : H.WF) {n : Int} (hn : -9223372036854775808 ≤ n ∧ n ≤ 9223372036854775807) : ∃ H', T Try.prog 26 [iv n] H (.string (strB (decI n))) H' ∧ ∀ b, b < H.next → H'.blk b = H.blk b := by
  have : ∃ v H', T Try.prog 26 [iv n] H v H' ∧ v = .string (strB (decI n)) ∧ ∀ b, b < H.next → H'.blk b = H.blk b := by
    refine T_by hm light26 ?_
    have hnB := hw.next_ge
    have hsz := size_T (H := H.new 103 20 (List.replicate 20 (.int .u8 0))) hn
    simp only [List.replicate] at hsz
    simp [L26]
    refine goT_of hsz ?_
    simp
    refine loop_at (InvTx H n n.natAbs) 20 ?_ ?_
    · exact ⟨n.natAbs, [], rfl, by simp, by simp, by simp, by simp, by simp [List.replicate], by simp [decN], by omega, by omega, .inl rfl⟩
    · rintro k t H1 ⟨u, S, hk, t0, t3, t4, t5, rfl, hdec, hk1, hu, hk20⟩
      obtain ⟨i, hki⟩ : ∃ i, k = i + 2 := by
        rcases k with - | - | i
        · omega
        · exfalso; simp at hu; omega
        · exact ⟨i, rfl⟩
      obtain ⟨j, hj⟩ : ∃ j : Nat, j = i + 1 := ⟨_, rfl⟩
      have hkj : k = j + 1 := by omega
      have hi : i ≤ 18 := by omega
      have hu2 : u < 18446744073709551616 := by
        have : (10 : Nat) ^ (k - 1) ≤ 10 ^ 19 := Nat.pow_le_pow_right (by decide) (by omega)
        omega
      have c1 : IntKind.i64.wrap ((k : Int) - 1) = (j : Int) := by rw [w64 _ (by omega)]; omega
      have c2 : sBin .rem (uv u) (.int .u64 10) = some (uv (u % 10)) := rem_nat .u64 u 10 (by decide)
      have c3 : sBin .quo (uv u) (.int .u64 10) = some (uv (u / 10)) := quo_u64 u 10 (by decide) hu2
      have hidx : sIdxArr 20 1 (.pointer (some ⟨H.next, 0, none⟩)) (iv (j : Int)) = some (.pointer (some ⟨H.next, j, none⟩)) := by
        have : 0 ≤ (j : Int) ∧ (j : Int) < 20 := by omega
        simp only [sIdxArr, this, and_self, if_true, decide_true]
        simp [add_own]
        omega
      obtain ⟨d, hd⟩ : ∃ d, d = 48 + u % 10 := ⟨_, rfl⟩
      obtain ⟨m, hm'⟩ : ∃ m, m = u % 10 := ⟨_, rfl⟩
      obtain ⟨q, hq⟩ : ∃ q, q = u / 10 := ⟨_, rfl⟩
      rw [← hm'] at c2 hd
      rw [← hq] at c3
      have c4 : IntKind.u64.wrap (48 + (m : Int)) = (d : Int) := by rw [wu64 _ (by omega)]; omega
      have c5 : IntKind.u8.wrap (d : Int) = (d : Int) := wu8 _ (by omega)
      have hst : (H.new 103 20 (List.replicate k (.int .u8 0) ++ S.map bv)).store ⟨H.next, j, none⟩ (bv d) = some (H.new 103 20 (List.replicate j (.int .u8 0) ++ (d :: S).map bv)) := by
        rw [hkj, store_own (k := ⟨103, 20, List.replicate (j + 1) (.int .u8 0) ++ S.map bv⟩) (by simpa using hnB) (by simp), if_pos (by simp; omega)]
        simp only [rep_set, new_put, List.map_cons]
      obtain ⟨HA, hHA⟩ : ∃ HA, HA = H.new 103 20 (List.replicate k (.int .u8 0) ++ S.map bv) := ⟨_, rfl⟩
      obtain ⟨HB, hHB⟩ : ∃ HB, HB = H.new 103 20 (List.replicate j (.int .u8 0) ++ (d :: S).map bv) := ⟨_, rfl⟩
      rw [← hHA, ← hHB] at hst
      rw [← hHA]
      simp only [uv, bv] at c2 c3 hst t5
      have hdec2 : decF (j + 1) u = (if q = 0 then [] else decF j q) ++ [d] := by rw [hd, hm', hq]; rfl
      rw [hkj, hdec2] at hdec
      by_cases hq0 : q = 0
      · have hS : d :: S = decN n.natAbs := by rw [← hdec, if_pos hq0]; simp
        have hq0' : (q : Int) = 0 := by omega
        rw [hq0'] at c3
        have hlen : (d :: S).length + j = 20 := by simp; omega
        have fin := @text_fin H hw
        by_cases hneg : n < 0
        · have c6 : IntKind.i64.wrap ((j : Int) - 1) = (i : Int) := by rw [w64 _ (by omega)]; omega
          have hidx2 : sIdxArr 20 1 (.pointer (some ⟨H.next, 0, none⟩)) (iv i) = some (.pointer (some ⟨H.next, i, none⟩)) := by
            have : 0 ≤ (i : Int) ∧ (i : Int) < 20 := by omega
            simp [sIdxArr, this, add_own]
          obtain ⟨HC, hHC⟩ : ∃ HC, HC = H.new 103 20 (List.replicate i (.int .u8 0) ++ (45 :: d :: S).map bv) := ⟨_, rfl⟩
          have hst2 : HB.store ⟨H.next, i, none⟩ (.int .u8 45) = some HC := by
            rw [hHB, hj, hHC, store_own (k := ⟨103, 20, List.replicate (i + 1) (.int .u8 0) ++ (d :: S).map bv⟩) (by simpa using hnB) (by simp), if_pos (by simp; omega)]
            simp only [rep_set, new_put, List.map_cons]
            rfl
          obtain ⟨f1, f2⟩ := fin i (45 :: d :: S) (by simp only [List.length_cons] at hlen ⊢; omega)
          rw [← hHC] at f2
          simp only [List.length_cons] at f1 f2
          simp [L26_1, t0, t3, t4, t5, c1, c2, c3, c4, c5, hidx, hst, hneg, c6, hidx2, hst2, f1, f2]
          constructor
          · rw [decI, if_pos hneg, hS]
          · intro b hb
            rw [hHC]
            simp [Heap.new, Nat.ne_of_lt hb]
        · obtain ⟨f1, f2⟩ := fin j (d :: S) (by omega)
          rw [← hHB] at f2
          simp only [List.length_cons] at f1 f2
          simp [L26_1, t0, t3, t4, t5, c1, c2, c3, c4, c5, hidx, hst, hneg, f1, f2]
          constructor
          · rw [decI, if_neg hneg, hS]
          · intro b hb
            rw [hHB]
            simp [Heap.new, Nat.ne_of_lt hb]
      · have hq0' : ¬ (q : Int) = 0 := by omega
        simp [L26_1, t0, t3, t4, t5, c1, c2, c3, c4, c5, hidx, hst, hq0', hq0]
        rw [if_neg hq0] at hdec
        refine ⟨j, by omega, q, d :: S, by simp; omega, by simp [t0], by simp [t3], by simp, by simp, hHB, by simpa using hdec, by omega, ?_, .inr hq0⟩
        have e : k - 1 = (j - 1) + 1 := by omega
        rw [e, Nat.pow_succ] at hu
        omega
  obtain ⟨v, H', hT, rfl, hk⟩ := this
  exact ⟨H', hT, hk⟩
theorem strB_add (a b : List Nat) (h : a.length + b.length ≤ 9223372036854775807) : sBin .add (.string (strB a)) (.string (strB b)) = some (.string (strB (a ++ b))) := by
  have e : sBin .add (.string (strB a)) (.string (strB b)) = if (strB a).size + (strB b).size ≤ 9223372036854775807 then some (.string (strB a ++ strB b)) else none := rfl
  rw [e, if_pos (by rw [strB_size, strB_size]; exact h), strB_append]
theorem str_eql (a b : ByteArray) : sBin .eql (.string a) (.string b) = some (.bool (a.toList == b.toList)) := rfl
theorem strB_eql (S : List Nat) : sBin .eql (.string (strB S)) (.string ByteArray.empty) = some (.bool S.isEmpty) := by
  rw [str_eql, ByteArray.toList_eq, ByteArray.toList_eq]
  cases S <;> simp [strB, strOfNums] <;> rfl
def InvRt (H : Heap) (n : Int) (u0 : Nat) (k : Nat) (t : Tm) (H1 : Heap) : Prop :=
  ∃ (u : Nat) (S : List Nat), k + S.length = 20 ∧ t 0 = iv n ∧ t 3 = uv u ∧ t 4 = .string (strB S) ∧ H.next ≤ H1.next ∧ H1.WF ∧ (∀ b, b < H.next → H1.blk b = H.blk b) ∧
    (if u = 0 ∧ S ≠ [] then [] else decF k u) ++ S = decN u0 ∧ u < 10 ^ (k - 1) ∧ (k = 20 → S = [])
theorem one_str {H : Heap} (hw : H.WF) (ty d k : Nat) : sToStr (H.new ty 1 [bv d]) (.slice (some ⟨H.next, 0, none⟩) 1 k) = some (.string (strB [d])) := by
  have hnB := hw.next_ge
  have : (H.new ty 1 [bv d]).loadN ⟨H.next, 0, none⟩ 0 1 = some [bv d] := by
    rw [loadN_at (k := ⟨ty, 1, [bv d]⟩) (by simpa using hnB) (by simp) (by simp)]
    simp
  simp only [sToStr, this, Option.bind_some]
  have h2 := byteNums_bv [d]
  simp only [List.map_cons, List.map_nil] at h2
  simp only [h2, Option.map_some]
  rfl
theorem refText_T {H : Heap} (hw : H.WF) {n : Int} (hn : -9223372036854775808 ≤ n ∧ n ≤ 9223372036854775807) : ∃ H', T Try.prog 27 [iv n] H (.string (strB (decI n))) H' ∧ ∀ b, b < H.next → H'.blk b = H.blk b := by
  have : ∃ v H', T Try.prog 27 [iv n] H v H' ∧ v = .string (strB (decI n)) ∧ ∀ b, b < H.next → H'.blk b = H.blk b := by
    refine T_by hm light27 ?_
    simp [L27]
    refine goT_of (refSize_T hn) ?_
    simp
    refine loop_at (InvRt H n n.natAbs) 20 ?_ ?_
    · exact ⟨n.natAbs, [], rfl, by simp, by simp, by simp [strB_nil], Nat.le_refl _, hw, fun _ _ => rfl, by simp [decN], by omega, fun _ => rfl⟩
    · rintro k t H1 ⟨u, S, hk, t0, t3, t4, hn1, hw1, hkeep, hdec, hu, hkS⟩
      have hu2 : u < 18446744073709551616 := by
        have : (10 : Nat) ^ (k - 1) ≤ 10 ^ 19 := Nat.pow_le_pow_right (by decide) (by omega)
        omega
      by_cases hfin : u = 0 ∧ S ≠ []
      · obtain ⟨rfl, hS⟩ := hfin
        rw [if_pos ⟨rfl, hS⟩] at hdec
        have hne : S.isEmpty = false := by simpa using hS
        have c7 : sBin .add (.string ⟨#[45]⟩) (.string (strB S)) = some (.string (strB (45 :: S))) := strB_add [45] S (by simp; omega)
        by_cases hneg : n < 0
        · simp [L27_1, t0, t3, t4, strB_eql, c7, hne, hneg]
          exact ⟨by rw [decI, if_pos hneg, ← hdec]; rfl, hkeep⟩
        · simp [L27_1, t0, t3, t4, strB_eql, hne, hneg]
          exact ⟨by rw [decI, if_neg hneg, ← hdec]; rfl, hkeep⟩
      · rw [if_neg hfin] at hdec
        have hnB1 := hw1.next_ge
        have hgo : S.isEmpty = true ∨ 0 < u := by
          by_cases h : u = 0
          · left; simp at hfin; simp [hfin h]
          · right; omega
        have hl := long_T (H := H1) u hu2
        obtain ⟨d, hd⟩ : ∃ d, d = 48 + u % 10 := ⟨_, rfl⟩
        obtain ⟨m, hm'⟩ : ∃ m, m = u % 10 := ⟨_, rfl⟩
        obtain ⟨q, hq⟩ : ∃ q, q = u / 10 := ⟨_, rfl⟩
        rw [← hm'] at hd hl
        rw [← hq] at hl
        have c4 : IntKind.u64.wrap (48 + (m : Int)) = (d : Int) := by rw [wu64 _ (by omega)]; omega
        have c5 : IntKind.u8.wrap (d : Int) = (d : Int) := wu8 _ (by omega)
        have hz : zerosA [Value.int .u8 0] 1 = [.int .u8 0] := rfl
        have c7 := one_str hw1 5 d 0
        have c8 : sBin .add (.string (strB [d])) (.string (strB S)) = some (.string (strB (d :: S))) := strB_add [d] S (by simp; omega)
        simp only [bv] at c7
        have hk1 : 1 ≤ k := by
          rcases k with - | k
          · simp at hu
            subst hu
            simp at hfin
            subst hfin
            simp at hk
          · omega
        have hgoal : ∀ t2 : Tm, t2 0 = t 0 → t2 3 = uv q → t2 4 = .string (strB (d :: S)) → ∃ m, m < k ∧ InvRt H n n.natAbs m t2 (rdy (H1.new 5 1 [bv d])) := by
          intro t2 h0 h3 h4
          obtain ⟨j, rfl⟩ : ∃ j, k = j + 1 := ⟨k - 1, by omega⟩
          refine ⟨j, by omega, q, d :: S, by simp; omega, by rw [h0, t0], h3, h4, by simp; omega, WF_new hw1 _ _ _, ?_, ?_, ?_, by omega⟩
          · intro b hb
            rw [← hkeep b hb]
            simp [Heap.new]
            omega
          · have hdec2 : decF (j + 1) u = (if q = 0 then [] else decF j q) ++ [d] := by rw [hd, hm', hq]; rfl
            rw [hdec2] at hdec
            simpa using hdec
          · rcases j with - | j
            · simp at hu
              subst hu
              simp at hfin
              subst hfin
              simp at hk
            · simp only [Nat.add_sub_cancel, Nat.pow_succ] at hu ⊢
              omega
        by_cases hup : 0 < u
        · simp [L27_1, t0, t3, t4, hup]
          refine goT_of hl ?_
          simp [c4, c5, hz, c7, c8, t4]
          exact hgoal _ (by simp) (by simp) (by simp)
        · have hS : S.isEmpty = true := by simpa [hup] using hgo
          simp [L27_1, t0, t3, t4, hup, strB_eql, hS]
          refine goT_of hl ?_
          simp [c4, c5, hz, c7, c8, t4]
          exact hgoal _ (by simp) (by simp) (by simp)
  obtain ⟨v, H', hT, rfl, hk⟩ := this
  exact ⟨H', hT, hk⟩
end Go.Proofs.Ytjkfghekdcalhaa
