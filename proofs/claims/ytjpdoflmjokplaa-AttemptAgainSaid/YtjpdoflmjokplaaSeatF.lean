/-
  AttemptHolds answers true at all reads, memories and places.
-/
import Derived.Test.YtjpdoflmjokplaaSeatE
namespace Go.Proofs.Ytjpdoflmjokplaa
open Go.Ot Go.ChangeShapes Go.WideShapes Go.ChangeAt Go.RowKit
set_option linter.unusedSimpArgs false
set_option linter.unusedVariables false
theorem fIdx_neg (is : List Value → Bool) (l : List (List Value)) : fIdx is l < 0 ↔ ∀ r ∈ l, is r = false := by
  induction l with
  | nil => simp [fIdx]
  | cons a l ih =>
    have hg := fIdx_ge is l
    simp only [fIdx, List.mem_cons, forall_eq_or_imp]
    cases ha : is a with
    | true => simp
    | false =>
      simp only [Bool.false_eq_true, if_false, true_and]
      rw [← ih]
      split <;> omega
theorem xor_one (v : Int) : ∃ w, sBin .xor (iv v) (iv 1) = some (iv w) ∧ w ≠ v := by
  refine ⟨_, sBin_xor .i64 v 1, ?_⟩
  intro h
  obtain ⟨X, hX⟩ : ∃ X : BitVec 64, X = BitVec.ofInt IntKind.i64.bits v ^^^ BitVec.ofInt IntKind.i64.bits 1 := ⟨_, rfl⟩
  rw [← hX] at h
  have hb := X.isLt
  have e1 : ((X.toNat : Nat) : Int) = v % 18446744073709551616 := by
    simp only [IntKind.wrap, IntKind.bits, IntKind.signed] at h
    simp at h
    split at h <;> omega
  have e2 : BitVec.ofInt 64 v = X := by
    apply BitVec.eq_of_toNat_eq
    rw [BitVec.toNat_ofInt, show ((2 ^ 64 : Nat) : Int) = 18446744073709551616 from rfl, ← e1]
    simp
  have e3 : X.getLsbD 0 = (BitVec.ofInt 64 v ^^^ BitVec.ofInt 64 1).getLsbD 0 := congrArg (fun b : BitVec 64 => b.getLsbD 0) hX
  rw [← e2] at e3
  have e4 : (BitVec.ofInt 64 1).getLsbD 0 = true := by decide
  have e5 : (BitVec.ofInt 64 v).getLsbD 0 = ((BitVec.ofInt 64 v).getLsbD 0 ^^ (BitVec.ofInt 64 1).getLsbD 0) := by
    rw [← BitVec.getLsbD_xor]; exact e3
  rw [e4] at e5
  cases hv : (BitVec.ofInt 64 v).getLsbD 0 <;> rw [hv] at e5 <;> simp at e5
def Good (rs : List R3) (m : List Int) : Prop := ∀ r ∈ rs, 0 ≤ r.1 ∧ r.1 < m.length ∧ m.getD r.1.toNat 0 = r.2.1
theorem noteL_mem {rs : List R3} {q : R3} {mr : Int} {r : R3} (h : r ∈ noteL rs q mr) : r ∈ rs ∨ r = q := by
  unfold noteL at h
  split at h
  · exact .inl h
  · split at h
    · exact .inl h
    · simpa using h
theorem noteL_len (rs : List R3) (q : R3) (mr : Int) : (noteL rs q mr).length ≤ rs.length + 1 := by
  unfold noteL
  split
  · omega
  · split <;> simp
theorem good_holds {rs : List R3} {m : List Int} (h : Good rs m) : holdsV rs m = true := by
  unfold holdsV
  rw [decide_eq_true_iff, fIdx_neg]
  intro row hr
  obtain ⟨q, hq, rfl⟩ := List.mem_map.1 hr
  obtain ⟨h1, h2, h3⟩ := h q hq
  simp only [row3, isBad, Bool.not_eq_false', Bool.and_eq_true, decide_eq_true_eq, beq_iff_eq]
  exact ⟨⟨h1, h2⟩, h3⟩
theorem turned_holds {rs : List R3} {m : List Int} (h : Good rs m) {k : Nat} (hk : k < m.length) {w : Int} (hw : w ≠ m[k]) : holdsV rs (m.set k w) = !decide (0 ≤ rIdx k rs) := by
  have hx : holdsV rs (m.set k w) = true ↔ ¬ 0 ≤ rIdx k rs := by
    unfold holdsV rIdx
    rw [decide_eq_true_iff, Int.not_le, fIdx_neg, fIdx_neg]
    constructor
    · intro ha row hr
      obtain ⟨q, hq, rfl⟩ := List.mem_map.1 hr
      obtain ⟨h1, h2, h3⟩ := h q hq
      have h4 := ha _ hr
      simp only [row3, isBad, Bool.not_eq_false', Bool.and_eq_true, decide_eq_true_eq, beq_iff_eq] at h4
      simp only [row3, isAt, beq_eq_false_iff_ne]
      intro e
      rw [e] at h3 h4
      simp only [Int.toNat_natCast] at h3 h4
      have h5 := h4.2
      simp [List.getD, hk] at h3 h5
      exact hw (h5.trans h3.symm)
    · intro ha row hr
      obtain ⟨q, hq, rfl⟩ := List.mem_map.1 hr
      obtain ⟨h1, h2, h3⟩ := h q hq
      have h4 := ha _ hr
      simp only [row3, isAt, beq_eq_false_iff_ne] at h4
      simp only [row3, isBad, Bool.not_eq_false', Bool.and_eq_true, decide_eq_true_eq, beq_iff_eq, List.length_set]
      refine ⟨⟨h1, h2⟩, ?_⟩
      have : k ≠ q.1.toNat := by omega
      simp only [List.getD, List.getElem?_set, this, if_false] at h3 ⊢
      exact h3
  cases hb : holdsV rs (m.set k w) with
  | true => simp [hx.1 hb]
  | false =>
    have : 0 ≤ rIdx k rs := by
      by_cases h0 : 0 ≤ rIdx k rs
      · exact h0
      · rw [hx.2 h0] at hb; cases hb
    simp [this]
def Inv3 (H : Heap) (x0 y : Value) (at' : Int) (p n : Nat) (m : List Int) (hq : Value) (k : Nat) (t : Tm) (H1 : Heap) : Prop :=
  ∃ (i : Nat) (rs : List R3) (xr : Value), i + k = n ∧ t 0 = x0 ∧ t 2 = iv at' ∧ t 7 = ptr p ∧ t 9 = y ∧ t 10 = iv (i : Nat) ∧ rs.length ≤ i ∧ Good rs m ∧ LG H1 p rs [] (64 : Nat) (1 : Nat) xr (.slice none 0 0) (.slice none 0 0) hq (1 : Nat) ∧ H1.WF ∧ H1.base = H.base ∧ H.next ≤ H1.next ∧
    (∀ b, b < H.next → H1.blk b = H.blk b) ∧ Own H1 2 1 m.length (m.map (.int .i64)) y ∧ (∀ b, blkOf y = some b → blkOf xr ≠ some b ∧ b ≠ p ∧ b < H1.next ∧ H.next ≤ b) ∧ ∀ b, blkOf xr = some b → H.next ≤ b
theorem holdsLaw_T {H : Heap} (hw : H.WF) {x0 x1 : Value} {l : List R3} {m : List Int} (h0 : Rws H 3 x0 (l.map row3)) (h1 : Ints H .i64 x1 m) {at' : Int} (hat : -9223372036854775808 ≤ at' ∧ at' ≤ 9223372036854775807) :
    ∃ v H', T Try.prog 3 [x0, x1, iv at'] H v H' ∧ v = .bool true := by
  refine T_by hm light3 ?_
  obtain ⟨a0, c0, e0⟩ := h0.len
  rw [List.length_map] at e0
  obtain ⟨a1, c1, e1⟩ := h1.len
  by_cases hl : 100 < m.length
  · rw [e1]; simp [L3, hl]
  by_cases hr : 64 < l.length
  · rw [e0, e1]; simp [L3, hl, hr]
  obtain ⟨v1, H1, T1, rfl, n1, s1, hq, G1⟩ := lnew_T hw 64 1 1 (by omega) (by omega) (by omega)
  have w1 := T1.grow.wf hw
  have o1 : ∀ b, b < H.next → H1.blk b = H.blk b := fun b hb => s1 b hb (by simp)
  have hnB1 := w1.next_ge
  obtain ⟨H2, hH2⟩ : ∃ H2, H2 = H1.new 2 1 [] := ⟨_, rfl⟩
  have w2 : H2.WF := by rw [hH2]; exact WF_new w1 _ _ _
  have b2 : H2.base = H.base := by rw [hH2]; exact T1.1
  have o2 : ∀ b, b < H.next → H2.blk b = H.blk b := fun b hb => by rw [hH2]; simp [show b ≠ H1.next by omega]; exact o1 b hb
  have own2 : Own H2 2 1 0 [] (sl H1.next 0) := Own.mk rfl (by rw [hH2]; simpa using hnB1) (by rw [hH2]; simp)
  obtain ⟨ay, H3, ap, gy⟩ := Og.pour w2 own2 (h1.keep hw b2 o2).src (by simp) (bytes := 8) (by omega)
  rw [Nat.zero_add] at ap gy
  rw [List.nil_append] at gy
  have n2 : H2.next = H1.next + 1 := by rw [hH2]; rfl
  have G3 : LG H3 (H.next + 1) [] [] (64 : Nat) (1 : Nat) (.slice none 0 0) (.slice none 0 0) (.slice none 0 0) hq (1 : Nat) :=
    G1.keep w1 (gy.base.trans (by rw [hH2]; rfl)) (fun b hb => (gy.same b (by omega) (by simp; omega)).trans (by rw [hH2]; simp [show b ≠ H1.next by omega]))
  have b3 : H3.base = H.base := gy.base.trans b2
  have o3 : ∀ b, b < H.next → H3.blk b = H.blk b := fun b hb => (gy.same b (by omega) (by simp; omega)).trans (o2 b hb)
  have yb : ∀ b, blkOf (.slice ay m.length 0) = some b → H1.next ≤ b := fun b hb => by
    rcases gy.old b hb with h | h
    · simp at h; omega
    · omega
  rw [e1] at ap
  rw [e0, e1]
  simp [L3, hl, hr]
  refine goT_of T1 ?_
  simp [fitsNil, isNil]
  rw [← hH2]
  simp [ap]
  rw [← e0]
  refine loop_at (Inv3 H x0 (.slice ay m.length 0) at' (H.next + 1) l.length m hq) l.length ?_ ?_
  · exact ⟨0, [], .slice none 0 0, by omega, by simp [e0], by simp, by simp, by simp, by simp, by simp, by simp [Good], G3, gy.wf, b3, by have := gy.next; omega, o3, gy.own, fun b hb => ⟨by simp, by have := yb b hb; omega, gy.own.lt gy.wf hb, by have := yb b hb; omega⟩, by simp⟩
  · rintro k t H4 ⟨i, rs, xr, hik, t0, t2, t7, t9, t10, hrl, hgood, G, w4, b4, n4, o4, oy, yf, xf⟩
    have iy := oy.ints
    cases k with
    | succ k =>
      have hi : i < l.length := by omega
      obtain ⟨b, off, c, hx, hlen, ld, _⟩ := (h0.keep hw b4 o4).at (i := i) (by simpa using hi)
      simp only [List.getElem_map, List.length_map] at hx hlen ld
      obtain ⟨q, hq'⟩ : ∃ q, q = l[i] := ⟨_, rfl⟩
      rw [← hq'] at ld hlen
      obtain ⟨a, v, fr⟩ := q
      have e3 : IntKind.i64.wrap ((i : Int) + 1) = ((i + 1 : Nat) : Int) := by rw [w64 _ (by omega)]; omega
      obtain ⟨i1, hi1⟩ : ∃ i1, i1 = i + 1 := ⟨_, rfl⟩
      rw [← hi1] at e3
      have st := new_storeA w4 29 3 [.int .i64 0, .int .i64 0, .int .i64 0] (row3 (a, v, fr)) rfl rfl (by decide)
      have lo := new_load w4 29 3 (row3 (a, v, fr))
      have keepB : ∀ z : R3, (∀ b, b < H4.next → (H4.new 29 3 (row3 z)).blk b = H4.blk b) := fun z b hb => by simp [show b ≠ H4.next by omega]
      have fin : ∀ (t' : Tm) (H5 : Heap) (rs' : List R3) (xr' : Value), t' 0 = x0 → t' 2 = iv at' → t' 7 = ptr (H.next + 1) → t' 9 = .slice ay m.length 0 → t' 10 = iv i1 → rs'.length ≤ i1 → Good rs' m → LG H5 (H.next + 1) rs' [] (64 : Nat) (1 : Nat) xr' (.slice none 0 0) (.slice none 0 0) hq (1 : Nat) → H5.WF → H5.base = H.base →
          H4.next ≤ H5.next → (∀ b, b < H4.next → b ≠ H.next + 1 → blkOf xr ≠ some b → H5.blk b = H4.blk b) → (∀ b, blkOf xr' = some b → blkOf xr = some b ∨ H4.next ≤ b) → (∀ b, b < H.next → H5.blk b = H.blk b) →
          ∃ m', m' < k + 1 ∧ Inv3 H x0 (.slice ay m.length 0) at' (H.next + 1) l.length m hq m' t' H5 := by
        intro t' H5 rs' xr' g0 g2 g7 g9 g10 gl gg G5 w5 b5 n5 s5 nx5 o5
        refine ⟨k, Nat.lt_succ_self k, i1, rs', xr', by omega, g0, g2, g7, g9, g10, gl, gg, G5, w5, b5, by omega, o5, ?_, ?_, ?_⟩
        · refine oy.keep (B_eq (b5.trans b4.symm)) (fun b hb => ?_)
          obtain ⟨f1, f2, f3, f4⟩ := yf b hb
          exact s5 b f3 f2 f1
        · intro b hb
          obtain ⟨f1, f2, f3, f4⟩ := yf b hb
          refine ⟨fun e => ?_, f2, by omega, f4⟩
          rcases nx5 b e with h | h
          · exact f1 h
          · omega
        · intro b hb
          rcases nx5 b hb with h | h
          · exact xf b h
          · omega
      have skip : ∀ (z : R3), LG (H4.new 29 3 (row3 z)) (H.next + 1) rs [] (64 : Nat) (1 : Nat) xr (.slice none 0 0) (.slice none 0 0) hq (1 : Nat) := fun z => G.keep w4 rfl (keepB z)
      have obx : ∀ (z : R3) b, b < H.next → (H4.new 29 3 (row3 z)).blk b = H.blk b := fun z b hb => (keepB z b (by omega)).trans (o4 b hb)
      simp only [row3] at st lo ld
      by_cases ha : 0 ≤ a ∧ a < m.length
      · obtain ⟨j, rfl⟩ : ∃ j : Nat, a = j := ⟨a.toNat, by omega⟩
        have hj : j < m.length := by omega
        obtain ⟨by', offy, cy, hy, lm⟩ := iy.at hj
        have lm2 : (H4.new 29 3 (row3 (j, v, fr))).load ⟨by', offy + j, none⟩ = some (iv m[j]) := load_newN w4 lm _ _ _
        have st1 : (H4.new 29 3 (row3 (j, v, fr))).store ⟨H4.next, 1, none⟩ (iv m[j]) = some (H4.new 29 3 (row3 (j, m[j], fr))) := by
          have hnB4 := w4.next_ge
          rw [store_own (k := ⟨29, 3, row3 (j, v, fr)⟩) (by simpa using hnB4) (by simp), if_pos (by simp [row3])]
          simp [row3, new_put]
        have ld3 := new_loadA w4 29 3 (row3 (j, m[j], fr)) rfl
        obtain ⟨v5, H5, T5, rfl, xr', N⟩ := note_T (WF_new w4 29 3 (row3 (j, m[j], fr))) (skip (j, m[j], fr)) (j, m[j], fr) (by omega)
        simp only [row3] at lm2 st1 ld3 T5
        rw [hy] at t9
        simp [L3_1, t0, t7, t9, t10, hx, hi, ld, st, lo, hj, lm2, st1, ld3]
        refine goT_of T5 ?_
        simp [t10, e3]
        rw [← hx, ← hy] 
        refine fin _ H5 _ xr' (by simp [t0]) (by simp [t2]) (by simp [t7]) (by simp [t9, hy]) (by simp) (by have := noteL_len rs (j, m[j], fr) ((64 : Nat) : Int); omega) ?_ N.lg N.wf (N.base.trans b4) (by have := N.next; simp at this; omega) ?_ ?_ ?_
        · intro r hr'
          rcases noteL_mem hr' with h | h
          · exact hgood r h
          · subst h
            refine ⟨by simp, by simpa using hj, ?_⟩
            simp [List.getD, hj]
        · intro b hb hp' hx'
          rw [N.same b (by simp; omega) hp' hx' (by simp)]
          exact keepB _ b hb
        · intro b hb
          rcases N.newR b hb with h | h
          · exact .inl h
          · simp at h; exact .inr (by omega)
        · intro b hb
          rw [N.same b (by simp; omega) (by omega) (fun e => by have := xf b e; omega) (by simp)]
          exact obx _ b hb
      · have hskip : (∀ t' : Tm, t' 0 = x0 → t' 2 = iv at' → t' 7 = ptr (H.next + 1) → t' 9 = .slice ay m.length 0 → t' 10 = iv i1 → ∃ m', m' < k + 1 ∧ Inv3 H x0 (.slice ay m.length 0) at' (H.next + 1) l.length m hq m' t' (H4.new 29 3 (row3 (a, v, fr)))) := by
          intro t' g0 g2 g7 g9 g10
          exact fin t' _ rs xr g0 g2 g7 g9 g10 (by omega) hgood (skip (a, v, fr)) (WF_new w4 _ _ _) b4 (by simp) (fun b hb _ _ => keepB _ b hb) (fun b hb => .inl hb) (obx _)
        by_cases ha0 : 0 ≤ a
        · have ha1 : ¬ a < m.length := fun h => ha ⟨ha0, h⟩
          simp [L3_1, t0, t7, t9, t10, hx, hi, ld, st, lo, ha0, ha1, e3]
          rw [← hx]
          exact hskip _ (by simp [t0]) (by simp [t2]) (by simp [t7]) (by simp [t9]) (by simp)
        · simp [L3_1, t0, t7, t9, t10, hx, hi, ld, st, lo, ha0, e3]
          rw [← hx]
          exact hskip _ (by simp [t0]) (by simp [t2]) (by simp [t7]) (by simp [t9]) (by simp)
    | zero =>
      have ei : i = l.length := by omega
      subst ei
      obtain ⟨v5, H5, T5, rfl, s5⟩ := holds_T w4 G iy (by omega)
      rw [good_holds hgood] at T5
      have w5 := T5.grow.wf w4
      have n5 := T5.grow.next
      have G5 := G.keep w4 T5.1 (fun b hb => s5 b hb (by simp))
      have oy5 := oy.keep (B_eq T5.1) (fun b hb => s5 b (yf b hb).2.2.1 (by simp))
      rw [e0] at t0
      obtain ⟨v9, H9, T9, rfl⟩ := alive_T w5
      by_cases hm0 : m.length = 0
      · simp [L3_1, t0, t10]
        refine goT_of (by rw [t7, t9]; exact T5) ?_
        simp [t9, hm0]
        refine goT_of T9 ?_
        simp
      · obtain ⟨n, hn⟩ : ∃ n, n = m.length := ⟨_, rfl⟩
        have hqb1 := Int.tmod_lt_of_pos at' (show (0 : Int) < n by omega)
        have hqb2 := Int.lt_tmod_of_pos at' (show (0 : Int) < n by omega)
        have r1 : sBin .rem (iv at') (iv n) = some (iv (at'.tmod n)) := by rw [sBin_rem, if_neg (by omega)]
        obtain ⟨q, hq'⟩ : ∃ q, q = at'.tmod n := ⟨_, rfl⟩
        rw [← hq'] at r1 hqb1 hqb2
        obtain ⟨s, hs⟩ : ∃ s : Nat, (s : Int) = q + n := ⟨(q + n).toNat, by omega⟩
        have c2 : IntKind.i64.wrap (q + (n : Int)) = (s : Int) := by rw [w64 _ (by omega)]; omega
        obtain ⟨k, hk⟩ : ∃ k, k = s % n := ⟨_, rfl⟩
        have r2 : sBin .rem (iv s) (iv n) = some (iv k) := by rw [hk]; exact rem_nat .i64 s n (by omega)
        have hkl : k < m.length := by
          have := Nat.mod_lt s (show 0 < n by omega)
          omega
        rcases oy5.2 with ⟨_, h00⟩ | ⟨by', rest, hby, hBy, hky⟩
        · omega
        obtain ⟨w, hx, hne⟩ := xor_one m[k]
        have lm : H5.load ⟨by', k, none⟩ = some (iv m[k]) := by
          rw [load_at hBy hky, List.getElem?_append_left (by simpa using hkl)]
          simp [hkl]
        obtain ⟨H6, hH6⟩ : ∃ H6, H6 = H5.put by' ((m.set k w).map (.int .i64) ++ rest) := ⟨_, rfl⟩
        have st : H5.store ⟨by', k, none⟩ (iv w) = some H6 := by
          rw [store_own hBy hky, if_pos (by simp; omega), List.set_append_left _ _ (by simpa using hkl), hH6]
          simp [List.map_set]
        have hyb : blkOf (.slice ay m.length 0) = some by' := by rw [hby]; rfl
        obtain ⟨f1, f2, f3, f4⟩ := yf by' hyb
        have w6 : H6.WF := by rw [hH6]; exact WF_put w5 _ _
        have b6 : H6.base = H5.base := by rw [hH6]; rfl
        have k6 : ∀ b, b ≠ by' → H6.blk b = H5.blk b := fun b hb => by rw [hH6]; simp [hb]
        have G6 : LG H6 (H.next + 1) rs [] (64 : Nat) (1 : Nat) xr (.slice none 0 0) (.slice none 0 0) hq (1 : Nat) :=
          ⟨by rw [B_eq b6]; exact G5.hp, by rw [k6 _ (fun e => f2 e.symm)]; exact G5.bp, G5.ro.keep (B_eq b6) (fun b hb => k6 b (fun e => f1 (by rw [← e]; exact hb))), G5.wo.keep (B_eq b6) (fun b hb => by cases hb), G5.pr, G5.pw, G5.rw⟩
        have oy6 : Own H6 2 1 m.length ((m.set k w).map (.int .i64)) (.slice ay m.length 0) :=
          ⟨by simp, .inr ⟨by', rest, hby, by rw [B_eq b6]; exact hBy, by rw [hH6]; simp [hky]⟩⟩
        obtain ⟨v7, H7, T7, rfl, s7⟩ := read_T w6 G6 k (by omega)
        have w7 := T7.grow.wf w6
        obtain ⟨row, hrow⟩ : ∃ row, row = row3 (rowAt rs (rIdx k rs)) := ⟨_, rfl⟩
        have st7 := new_storeA w7 29 3 [.int .i64 0, .int .i64 0, .int .i64 0] row rfl (by rw [hrow]; rfl) (by decide)
        rw [← hrow] at T7
        obtain ⟨H8, hH8⟩ : ∃ H8, H8 = H7.new 29 3 row := ⟨_, rfl⟩
        rw [← hH8] at st7
        have w8 : H8.WF := by rw [hH8]; exact WF_new w7 _ _ _
        have b8 : H8.base = H6.base := by rw [hH8]; exact T7.1
        have n7 := T7.grow.next
        have k8 : ∀ b, b < H6.next → H8.blk b = H6.blk b := fun b hb => by
          rw [hH8]; simp [show b ≠ H7.next by omega]; exact s7 b hb (by simp)
        have G8 := G6.keep w6 b8 k8
        have iy8 := (oy6.ints).keep w6 b8 k8
        obtain ⟨va, Ha, Ta, rfl, sa⟩ := holds_T w8 G8 iy8 (by omega)
        rw [turned_holds hgood hkl hne] at Ta
        obtain ⟨vb, Hb, Tb, rfl⟩ := alive_T (Ta.grow.wf w8)
        obtain ⟨th, hth⟩ : ∃ th, th = decide (0 ≤ rIdx k rs) := ⟨_, rfl⟩
        rw [← hth] at T7 Ta
        have hay : (.slice ay m.length 0 : Value) = sl by' m.length := hby
        rw [hay] at t9 T5 Ta
        simp [L3_1, t0, t10]
        refine goT_of (by rw [t7, t9]; exact T5) ?_
        have hn0 : ¬ n = 0 := by omega
        rw [← hn] at t9 Ta hkl
        simp [t2, t9, hn0, r1, c2, r2, hkl, lm, hx, st]
        refine goT_of (by rw [t7]; exact T7) ?_
        simp [st7]
        refine goT_of (by rw [t7, t9]; exact Ta) ?_
        simp
        refine goT_of Tb ?_
        simp
set_option maxRecDepth 100000 in
theorem rd_row3 {H : Heap} (ds : List Value) (h : Rd Try.prog H 3 29 ds) : ∃ a : R3, ds = row3 a := by
  have hl : ds.length = 3 := (rd_len Try.underlying29 h).trans (by kernel_rfl)
  have c3 : Try.prog.cellsOf 3 = 1 := by kernel_rfl
  have c2 : Try.prog.cellsOf 2 = 1 := by kernel_rfl
  match ds, hl with
  | [w0, w1, w2], _ =>
    have g0 := rd_field Try.underlying29 h 0 rfl c3
    have g1 := rd_field Try.underlying29 h 1 rfl c2
    have g2 := rd_field Try.underlying29 h 2 rfl c3
    obtain ⟨a, q0, _⟩ := rd_int Try.underlying3 g0
    obtain ⟨b, q1, _⟩ := rd_int Try.underlying2 g1
    obtain ⟨c, q2, _⟩ := rd_int Try.underlying3 g2
    simp at q0 q1 q2
    subst q0 q1 q2
    exact ⟨(a, b, c), rfl⟩
set_option maxRecDepth 100000 in
theorem holds_U {H : Heap} (hw : H.WF) {x0 x1 : Value} (h0 : Rd Try.prog H 4 22 [x0]) {m : List Int} (h1 : IntsB H .i64 x1 m) (_ : ∀ n ∈ m, (Lit.int .i64 n).wf = true) {at' : Int} (hat : -9223372036854775808 ≤ at' ∧ at' ≤ 9223372036854775807) :
    ∃ v H', T Try.prog 3 [x0, x1, iv at'] H v H' ∧ v = .bool true := by
  have : ∃ l : List R3, Rws H 3 x0 (l.map row3) := by
    rcases rd_slice Try.underlying22 h0 (show Try.prog.cellsOf 29 = 3 by kernel_rfl) with rfl | ⟨b, off, k, c, rfl, _, h⟩
    · exact ⟨[], .inl ⟨rfl, rfl⟩⟩
    · obtain ⟨l, hl, h⟩ := rd_all (Q := fun (a : R3) ds => ds = row3 a) (fun ds h => rd_row3 ds h) h
      refine ⟨l, .inr ⟨b, off, c, by rw [List.length_map, hl], fun i hi => ?_⟩⟩
      have hi' : i < l.length := by simpa using hi
      obtain ⟨_, ds, _, h3, h4⟩ := h i hi'
      subst h4
      simp only [List.getElem_map]
      exact ⟨rfl, fun j hj => h3 j hj⟩
  obtain ⟨l, hl⟩ := this
  exact holdsLaw_T hw hl h1.ints hat
end Go.Proofs.Ytjpdoflmjokplaa
