/-
  Chapter 22: whether a memory is held; a new log; the example.
-/
import Derived.Test.YtjpdoflmjokplaaSeatC
namespace Go.Proofs.Ytjpdoflmjokplaa
open Go.Ot
set_option linter.unusedSimpArgs false
set_option linter.unusedVariables false
def isBad (m : List Int) : List Value → Bool
  | .int _ a :: .int _ v :: _ => !(decide (0 ≤ a) && decide (a < m.length) && (m.getD a.toNat 0 == v))
  | _ => false
theorem says_bad {H : Heap} (hw : H.WF) {c : Nat} {x : Value} {m : List Int} (hB : ¬ c < H.B) (hc : H.blk c = some ⟨23, 1, [x]⟩) (hx : Ints H .i64 x m) (l : List R3) : Says H (.func (.func 24) #[] #[ptr c]) (isBad m) (l.map row3) := by
  intro H1 w1 b1 n1 o1 r hr
  obtain ⟨q, _, rfl⟩ := List.mem_map.1 hr
  have hc1 : H1.blk c = some ⟨23, 1, [x]⟩ := by rw [o1 c (hw.lt hc)]; exact hc
  have hB1 : ¬ c < H1.B := by rw [B_eq b1]; exact hB
  have hx1 := hx.keep hw b1 o1
  have : ∃ v H2, T Try.prog 24 [.agg (row3 q).toArray, ptr c] H1 v H2 ∧ v = .bool (isBad m (row3 q)) ∧ Same H1 H2 [] := by
    refine T_by hm light24 ?_
    have l0 := new_load w1 29 3 (row3 q)
    have l1 : (H1.new 29 3 (row3 q)).load ⟨c, 0, none⟩ = some x := load_newN w1 (by rw [load_at hB1 hc1]; rfl) _ _ _
    have hx2 : Ints (H1.new 29 3 (row3 q)) .i64 x m := Ints.keep (H' := H1.new 29 3 (row3 q)) w1 rfl (fun b hb => by simp [show b ≠ H1.next by omega]) hx1
    have s2 : Same H1 (H1.new 29 3 (row3 q)) [] := fun b hb _ => by simp [show b ≠ H1.next by omega]
    obtain ⟨xa, xc, hxl⟩ := hx2.len
    obtain ⟨a, v, fr⟩ := q
    simp only [row3] at l0 l1 hx2 s2
    by_cases h1 : a < 0
    · have h1' : ¬ 0 ≤ a := by omega
      simp [L24, l0, h1, row3, isBad, h1', s2]
    · by_cases h2 : (m.length : Int) ≤ a
      · have h2' : ¬ a < m.length := by omega
        rw [hxl] at l1
        simp [L24, l0, l1, h1, h2, row3, isBad, h2', s2]
      · obtain ⟨i, rfl⟩ : ∃ i : Nat, a = i := ⟨a.toNat, by omega⟩
        have hi : i < m.length := by omega
        obtain ⟨b, off, cc, hb, ld⟩ := hx2.at hi
        rw [hb] at l1
        have e1 : m.getD i 0 = m[i] := by simp [List.getD, hi]
        simp [L24, l0, l1, h2, hi, ld, row3, isBad, s2]
        rfl
  obtain ⟨v, H2, T2, rfl, s2⟩ := this
  exact ⟨H2, ⟨24, #[ptr c], rfl, ⟨Try.f24, Try.func24, by kernel_rfl, by kernel_rfl⟩, T2⟩, s2⟩
def holdsV (rs : List R3) (m : List Int) : Bool := decide (fIdx (isBad m) (rs.map row3) < 0)
theorem holds_T {H : Heap} (hw : H.WF) {p : Nat} {rs : List R3} {ws : List (Int × Int)} {mr mw mo : Int} {xr xw xo hq : Value} (h : LG H p rs ws mr mw xr xw xo hq mo) {x : Value} {m : List Int} (hx : Ints H .i64 x m) (hl : rs.length ≤ 1000) :
    ∃ v H', T Try.prog 8 [ptr p, x] H v H' ∧ v = .bool (holdsV rs m) ∧ Same H H' [] := by
  refine T_by hm light8 ?_
  have hnB := hw.next_ge
  obtain ⟨xa, xc, hxl⟩ := hx.len
  obtain ⟨H1, hH1⟩ : ∃ H1, H1 = H.new 23 1 [x] := ⟨_, rfl⟩
  have w1 : H1.WF := by rw [hH1]; exact WF_new hw _ _ _
  have n1 : H1.next = H.next + 1 := by rw [hH1]; rfl
  have b1 : H1.base = H.base := by rw [hH1]; rfl
  have k1 : ∀ b, b < H.next → H1.blk b = H.blk b := fun b hb => by rw [hH1]; simp [show b ≠ H.next by omega]
  have hc1 : H1.blk H.next = some ⟨23, 1, [x]⟩ := by rw [hH1]; simp
  have hB1 : ¬ H.next < H1.B := by rw [B_eq b1]; exact hnB
  have h1 := h.keep hw b1 k1
  have hx1 := hx.keep hw b1 k1
  have l1 : H1.load ⟨p, 0, none⟩ = some xr := by rw [load_at h1.hp h1.bp]; rfl
  obtain ⟨v3, H3, T3, rfl, s3⟩ := find3_T w1 h1.rows (isBad m) (says_bad w1 hB1 hc1 hx1 rs) (by simp; omega)
  have n3 := T3.grow.next
  obtain ⟨i, hi⟩ : ∃ i, i = fIdx (isBad m) (rs.map row3) := ⟨_, rfl⟩
  unfold holdsV
  rw [← hi] at T3 ⊢
  rw [hxl] at hH1
  rw [hxl]
  simp [L8]
  rw [← hH1]
  simp [l1, isR0]
  refine goT_of T3 ?_
  simp
  exact fun b hb _ => (s3 b (by omega) (by simp)).trans (k1 b hb)
theorem rnew_T {H : Heap} (hw : H.WF) : T Try.prog 22 [.slice none 0 0] H (.tuple #[ptr H.next, iv 0]) (H.new 97 3 [.slice none 0 0, .slice none 0 0, iv 0]) := by
  refine T_eq hm light22 ?_
  simp [L22]
  refine loop_at (fun k t H1 => t 4 = ptr H.next ∧ t 13 = iv 0 ∧ t 14 = iv 0 ∧ H1 = H.new 97 3 [.slice none 0 0, .slice none 0 0, iv 0]) 0 ?_ ?_
  · simp
  · rintro k t H1 ⟨t4, t13, t14, rfl⟩
    simp [L22_1, t4, t13, t14, packV]
def InvNw (H : Heap) (n1 n2 n3 : Nat) (k : Nat) (t : Tm) (H1 : Heap) : Prop :=
  ∃ i : Nat, i + k = 3 ∧ t 0 = iv n1 ∧ t 1 = iv n2 ∧ t 2 = iv n3 ∧ t 3 = .slice none 0 0 ∧ t 17 = .agg #[iv n1, iv n2, iv n3] ∧ t 18 = iv i ∧ H1 = H
theorem lnew_T {H : Heap} (hw : H.WF) (n1 n2 n3 : Nat) (h1 : 1 ≤ n1 ∧ n1 ≤ 64) (h2 : 1 ≤ n2 ∧ n2 ≤ 64) (h3 : 1 ≤ n3 ∧ n3 ≤ 64) :
    ∃ v H', T Try.prog 6 [iv n1, iv n2, iv n3, .slice none 0 0] H v H' ∧ v = .tuple #[ptr (H.next + 1), iv 0] ∧ H'.next = H.next + 2 ∧ Same H H' [] ∧ ∃ hq, LG H' (H.next + 1) [] [] n1 n2 (.slice none 0 0) (.slice none 0 0) (.slice none 0 0) hq n3 := by
  refine T_by hm light6 ?_
  have hnB := hw.next_ge
  have T1 := rnew_T hw
  obtain ⟨H1, hH1⟩ : ∃ H1, H1 = H.new 97 3 [.slice none 0 0, .slice none 0 0, iv 0] := ⟨_, rfl⟩
  rw [← hH1] at T1
  have nn1 : H1.next = H.next + 1 := by rw [hH1]; rfl
  have bb1 : H1.base = H.base := by rw [hH1]; rfl
  simp [L6]
  refine loop_at (InvNw H n1 n2 n3) 3 ?_ ?_
  · exact ⟨0, rfl, by simp, by simp, by simp, by simp, by simp, by simp, rfl⟩
  · rintro k t H2 ⟨i, hik, t0, t1, t2, t3, t17, t18, rfl⟩
    cases k with
    | zero =>
      have e0 : i = 3 := by omega
      subst e0
      simp [L6_1, t18]
      refine goT_of (by rw [t3]; exact T1) ?_
      simp [t0, t1, t2, packV, nn1]
      refine ⟨?_, _, ⟨by simp; rw [B_eq bb1]; omega, by simp [nn1]; rfl, Own.nil _ _ _, Own.nil _ _ _, by simp, by simp, by simp⟩⟩
      intro b hb _
      simp [show b ≠ H2.next + 1 by omega, nn1, hH1, show b ≠ H2.next by omega]
    | succ k =>
      have hi : i < 3 := by omega
      have e3 : IntKind.i64.wrap ((i : Int) + 1) = ((i + 1 : Nat) : Int) := by rw [w64 _ (by omega)]; omega
      obtain ⟨i1, hi1⟩ : ∃ i1, i1 = i + 1 := ⟨_, rfl⟩
      rw [← hi1] at e3
      have fin : ∀ t' : Tm, t' 0 = iv n1 → t' 1 = iv n2 → t' 2 = iv n3 → t' 3 = .slice none 0 0 → t' 17 = .agg #[iv n1, iv n2, iv n3] → t' 18 = iv i1 → ∃ m, m < k + 1 ∧ InvNw H2 n1 n2 n3 m t' H2 :=
        fun t' g0 g1 g2 g3 g17 g18 => ⟨k, Nat.lt_succ_self k, i1, by omega, g0, g1, g2, g3, g17, g18, rfl⟩
      have c1 : ¬ (n1 = 0) := by omega
      have c2 : ¬ (n2 = 0) := by omega
      have c3 : ¬ (n3 = 0) := by omega
      have d1 : ¬ 64 < n1 := by omega
      have d2 : ¬ 64 < n2 := by omega
      have d3 : ¬ 64 < n3 := by omega
      have f1 : ¬ n1 < 1 := by omega
      have f2 : ¬ n2 < 1 := by omega
      have f3 : ¬ n3 < 1 := by omega
      have hcase : i = 0 ∨ i = 1 ∨ i = 2 := by omega
      rcases hcase with rfl | rfl | rfl
      · simp [L6_1, t17, t18, c1, d1, f1]
        exact fin _ (by simp [t0]) (by simp [t1]) (by simp [t2]) (by simp [t3]) (by simp [t17]) (by simp [hi1])
      · simp [L6_1, t17, t18, c2, d2, f2]
        exact fin _ (by simp [t0]) (by simp [t1]) (by simp [t2]) (by simp [t3]) (by simp [t17]) (by simp [hi1])
      · simp [L6_1, t17, t18, c3, d3, f3]
        exact fin _ (by simp [t0]) (by simp [t1]) (by simp [t2]) (by simp [t3]) (by simp [t17]) (by simp [hi1])
end Go.Proofs.Ytjpdoflmjokplaa
