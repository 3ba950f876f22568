/-
  Chapter 23: the document's Readers, Fall, Edges.
-/
import Derived.Test.YtadegahkgpedgaaSeatR
import Derived.Test.YtadegahkgpedgaaSeatW
namespace Go.Proofs.Ytadegahkgpedgaa
open Go.Ot Go.RowKit
set_option linter.unusedSimpArgs false
set_option linter.unusedVariables false
theorem On.row {H H1 H2 : Heap} {ety sz n : Nat} {cells : List Value} {y : Value} (o : On H H1) (r : Row H1 H2 ety sz n cells y) : Row H H2 ety sz n cells y :=
  ⟨r.own, r.wf, r.base.trans o.base, Nat.le_trans o.next r.next, fun b hb => Nat.le_trans o.next (r.new b hb), fun b hb => by rw [r.keep b (Nat.lt_of_lt_of_le hb o.next), o.keep b hb]⟩
theorem Row.onH {H H1 : Heap} {ety sz n : Nat} {cells : List Value} {y : Value} (r : Row H H1 ety sz n cells y) : On H H1 := ⟨r.wf, r.base, r.next, r.keep⟩
theorem Row.later {H H1 H2 : Heap} {ety sz n : Nat} {cells : List Value} {y : Value} (r : Row H H1 ety sz n cells y) (o : On H1 H2) : Row H H2 ety sz n cells y :=
  ⟨r.own.keep (B_eq o.base) (fun b hb => o.keep b (r.own.lt r.wf hb)), o.wf, o.base.trans r.base, Nat.le_trans r.next o.next, r.new, fun b hb => by rw [o.keep b (Nat.lt_of_lt_of_le hb r.next), r.keep b hb]⟩
def InvRr (HE : Heap) (b : Nat) (U : List Ed) (w : Int) (k : Nat) (t : Tm) (H1 : Heap) : Prop :=
  ∃ i y, i + k = U.length ∧ t 1 = iv w ∧ t 2 = ptr b ∧ t 5 = y ∧ t 6 = iv i ∧ Row HE H1 3 1 (rd (U.take i) w).length ((rd (U.take i) w).map iv) y
theorem rreaders_T {H : Heap} (hw : H.WF) {room : Int} {x : Value} {U : List Ed} (hu : UR H x U) (w : Int) (hl : U.length ≤ 10000) :
    ∃ o H', T Try.prog 20 [.agg (rv room x).toArray, iv w] H o H' ∧ ∃ X, Row H H' 3 1 X.length (X.map iv) o ∧ SortV (rd U w) X ∧ X.length ≤ U.length := by
  refine T_by hm light20 ?_
  have hc : (Value.agg (rv room x).toArray).cells.toList = rv room x := rfl
  obtain ⟨HE, hHE⟩ : ∃ HE, HE = H.new 36 2 (rv room x) := ⟨_, rfl⟩
  have on : On H HE := by rw [hHE]; exact (On.refl hw).new _ _ _
  have hu2 := hu.on hw on
  have bE : HE.blk H.next = some ⟨36, 2, rv room x⟩ := by rw [hHE]; simp
  have nE : HE.next = H.next + 1 := by rw [hHE]; simp
  have hnB := hw.next_ge
  simp only [L20]
  simp [hc, ← hHE]
  refine ⟨rfl, ?_⟩
  refine loop_at (InvRr HE H.next U w) U.length ?_ ?_
  · exact ⟨0, .slice none 0 0, by omega, by simp, by simp, by simp, by simp, Row.nil on.wf _ _⟩
  · rintro k t H1 ⟨i, y, hik, t1, t2, t5, t6, row⟩
    have b1 : H1.blk H.next = some ⟨36, 2, rv room x⟩ := by rw [row.keep _ (by omega)]; exact bE
    have ld1 : H1.load ⟨H.next, 1, none⟩ = some x := by rw [load_at (by rw [B_eq (row.base.trans on.base)]; exact hnB) b1]; rfl
    have hu3 : UR H1 x U := hu2.on on.wf row.onH
    obtain ⟨a, c, hx⟩ := hu3.len
    rw [List.length_map] at hx
    cases k with
    | zero =>
      have e1 : ¬ ((i : Int) < U.length) := by omega
      have e2 : i = U.length := by omega
      rw [e2, List.take_length] at row
      have hrl := rd_len U w
      obtain ⟨o, H2, hT, X, rowX, sv, hXl⟩ := sorted_T row.wf row.own.ints (by omega)
      obtain ⟨ao, ho⟩ := rowX.own.len
      have rowF := (on.trans row.onH).row rowX
      rw [hx] at ld1
      rw [ho] at hT rowF
      simp [L20_1, t6, t2, ld1, e1]
      refine goT_of (by rw [t5]; exact hT) ?_
      simp
      exact ⟨X, rowF, sv, by omega⟩
    | succ k =>
      have hil : i < U.length := by omega
      have e1 : ((i : Int) < U.length) := by omega
      have e4 : IntKind.i64.wrap ((i : Int) + 1) = ((i + 1 : Nat) : Int) := by rw [w64 _ (by omega)]; omega
      obtain ⟨b, off, c2, hxe, l0, l1⟩ := row_edges hu3 hil
      have hrt := rd_take U w i hil
      have hrl := rd_len (U.take i) w
      have hrl2 : (U.take i).length ≤ i := by simp; omega
      obtain ⟨iN, hiN⟩ : ∃ n : Nat, n = i + 1 := ⟨_, rfl⟩
      rw [← hiN] at e4 hrt
      rw [hxe] at ld1
      have hz : zerosA [iv 0] 1 = [iv 0] := rfl
      by_cases h : U[i].2 = w
      · have hb : (U[i].2 == w) = true := by simpa using h
        rw [if_pos h] at hrt
        obtain ⟨HA, ap, row2⟩ := row.push [iv U[i].1] rfl (by decide) 8 (by omega)
        simp [L20_1, t6, t2, ld1, e1, hil, l1, t1, hb, l0, hz, t5, ap, e4]
        refine ⟨k, by omega, iN, _, by omega, by simp [t1], by simp [t2], by simp; rfl, by simp, ?_⟩
        rw [hrt]
        have q1 : (rd (U.take i) w ++ [U[i].1]).length = (rd (U.take i) w).length + 1 := by simp
        have q2 : (rd (U.take i) w ++ [U[i].1]).map iv = (rd (U.take i) w).map iv ++ [iv U[i].1] := by simp
        rw [q1, q2]
        exact row2
      · have hb : (U[i].2 == w) = false := by simpa using h
        rw [if_neg h, List.append_nil] at hrt
        simp [L20_1, t6, t2, ld1, e1, hil, l1, t1, hb, e4]
        exact ⟨k, by omega, iN, y, by omega, by simp [t1], by simp [t2], by simp [t5], by simp, by rw [hrt]; exact row⟩
/-- How many edges' readers have not been found. -/
def cnt (U : List Ed) (X : List Int) : Nat := (U.filter fun e => !decide (e.1 ∈ X)).length
theorem cnt_more {U : List Ed} {X : List Int} {e : Ed} (he : e ∈ U) (hn : e.1 ∉ X) : cnt U (X ++ [e.1]) < cnt U X := by
  unfold cnt
  have hsub : ∀ V : List Ed, (V.filter fun d => !decide (d.1 ∈ X ++ [e.1])).length ≤ (V.filter fun d => !decide (d.1 ∈ X)).length := by
    intro V
    induction V with
    | nil => simp
    | cons d V ih =>
      simp only [List.filter_cons]
      by_cases h1 : d.1 ∈ X
      · have h2 : d.1 ∈ X ++ [e.1] := List.mem_append_left _ h1
        simp only [h1, h2, decide_true, Bool.not_true, Bool.false_eq_true, if_false]
        exact ih
      · by_cases h2 : d.1 ∈ X ++ [e.1]
        · simp only [h1, h2, decide_true, decide_false, Bool.not_true, Bool.not_false, Bool.false_eq_true, if_false, if_true, List.length_cons]
          omega
        · simp only [h1, h2, decide_false, Bool.not_false, if_true, List.length_cons]
          omega
  obtain ⟨V1, V2, rfl⟩ := List.append_of_mem he
  rw [List.filter_append, List.filter_append, List.length_append, List.length_append, List.filter_cons, List.filter_cons]
  have h1 := hsub V1
  have h2 := hsub V2
  have h3 : e.1 ∈ X ++ [e.1] := by simp
  simp only [hn, h3, decide_true, decide_false, Bool.not_true, Bool.not_false, Bool.false_eq_true, if_false, if_true, List.length_cons]
  omega
/-- A set that falls with an age, rising or not. -/
structure FallS (U : List Ed) (age : Int) (X : List Int) : Prop where
  has : age ∈ X
  lean : ∀ x ∈ X, x = age ∨ ∃ e ∈ U, e.1 = x ∧ e.2 ∈ X
theorem FallS.more {U : List Ed} {age : Int} {X : List Int} {e : Ed} (h : FallS U age X) (he : e ∈ U) (h2 : e.2 ∈ X) : FallS U age (X ++ [e.1]) where
  has := List.mem_append_left _ h.has
  lean := fun x hx => by
    rcases List.mem_append.1 hx with h1 | h1
    · rcases h.lean x h1 with h3 | ⟨d, hd, h3, h4⟩
      · exact .inl h3
      · exact .inr ⟨d, hd, h3, List.mem_append_left _ h4⟩
    · exact .inr ⟨e, he, (List.mem_singleton.1 h1).symm, List.mem_append_left _ h2⟩
def clo (U : List Ed) (X : List Int) (i : Nat) : Prop := ∀ q (h : q < U.length), q < i → U[q].2 ∈ X → U[q].1 ∈ X
def InvF1 (HE : Heap) (bx : Nat) (U : List Ed) (age : Int) (X0 : List Int) (k : Nat) (t : Tm) (H1 : Heap) : Prop :=
  ∃ (i : Nat) (X : List Int) (o : Value) (m : Bool), i + k = U.length ∧ t 2 = ptr bx ∧ t 5 = o ∧ t 6 = .bool m ∧ t 7 = iv i ∧ Row HE H1 3 1 X.length (X.map iv) o ∧ FallS U age X ∧ X.length + cnt U X ≤ U.length + 1 ∧
    (m = false → X = X0 ∧ clo U X i) ∧ (m = true → cnt U X < cnt U X0)
def InvF2 (HE : Heap) (bx : Nat) (U : List Ed) (age : Int) (k : Nat) (t : Tm) (H1 : Heap) : Prop :=
  ∃ (X : List Int) (o : Value) (m : Bool), 2 * cnt U X + (if m then 1 else 0) = k ∧ t 2 = ptr bx ∧ t 5 = o ∧ t 6 = .bool m ∧ Row HE H1 3 1 X.length (X.map iv) o ∧ FallS U age X ∧ X.length + cnt U X ≤ U.length + 1 ∧ (m = false → clo U X U.length)
theorem rfall_T {H : Heap} (hw : H.WF) {room : Int} {x : Value} {U : List Ed} (hu : UR H x U) (age : Int) (hl : U.length ≤ 10000) :
    ∃ o H', T Try.prog 21 [.agg (rv room x).toArray, iv age] H o H' ∧ ∃ X Y, Row H H' 3 1 Y.length (Y.map iv) o ∧ SortV X Y ∧ FallS U age X ∧ clo U X U.length ∧ Y.length ≤ 20000 := by
  refine T_by hm light21 ?_
  have hc : (Value.agg (rv room x).toArray).cells.toList = rv room x := rfl
  obtain ⟨HE, hHE⟩ : ∃ HE, HE = H.new 36 2 (rv room x) := ⟨_, rfl⟩
  have on : On H HE := by rw [hHE]; exact (On.refl hw).new _ _ _
  have hu2 := hu.on hw on
  have bE : HE.blk H.next = some ⟨36, 2, rv room x⟩ := by rw [hHE]; simp
  have nE : HE.next = H.next + 1 := by rw [hHE]; simp
  have hnB := hw.next_ge
  have hz : zerosA [iv 0] 1 = [iv 0] := rfl
  obtain ⟨HF, hHF⟩ : ∃ HF, HF = HE.new 3 1 [iv age] := ⟨_, rfl⟩
  have hnE := on.wf.next_ge
  have row0 : Row HE HF 3 1 [age].length ([age].map iv) (.slice (some ⟨HE.next, 0, none⟩) 1 0) := by
    refine ⟨Own.mk rfl (by rw [hHF]; simpa using hnE) (by rw [hHF]; simp), by rw [hHF]; exact WF_new on.wf _ _ _, by rw [hHF]; simp, by rw [hHF]; simp, fun b hb => by simp at hb; omega, fun b hb => ?_⟩
    have : b ≠ HE.next := by omega
    rw [hHF]; simp [this]
  have hcl0 : cnt U [age] ≤ U.length := List.length_filter_le _ _
  have fs0 : FallS U age [age] := ⟨by simp, fun x hx => .inl (List.mem_singleton.1 hx)⟩
  simp only [L21]
  simp [hc, ← hHE, hz, ← hHF]
  refine ⟨rfl, ?_⟩
  refine loop_at (InvF2 HE H.next U age) (2 * cnt U [age] + 1) ?_ ?_
  · exact ⟨[age], _, true, by simp, by simp, by simp, by simp, row0, fs0, by simp; omega, by simp⟩
  · rintro k t H1 ⟨X, o, m, hk, t2, t5, t6, row, fs, hXl, hclo⟩
    cases m with
    | false =>
      obtain ⟨o2, H2, hT, Y, rowY, sv, hYl⟩ := sorted_T row.wf row.own.ints (by omega)
      obtain ⟨ao, ho⟩ := rowY.own.len
      have rowF := (on.trans row.onH).row rowY
      rw [ho] at hT rowF
      simp [L21_2, t6]
      refine goT_of (by rw [t5]; exact hT) ?_
      simp
      exact ⟨X, Y, rowF, sv, fs, hclo rfl, by omega⟩
    | true =>
      simp [L21_2, t6]
      refine loop_at (InvF1 HE H.next U age X) U.length ?_ ?_
      · exact ⟨0, X, o, false, by omega, by simp [t2], by simp [t5], by simp, by simp, row, fs, hXl, fun _ => ⟨rfl, fun q _ h => absurd h (by omega)⟩, fun h => (by cases h)⟩
      · rintro k2 t' H2 ⟨i, X2, o2, m, hik, u2, u5, u6, u7, row2, fs2, hX2, hm0, hm1⟩
        have b1 : H2.blk H.next = some ⟨36, 2, rv room x⟩ := by rw [row2.keep _ (by omega)]; exact bE
        have ld1 : H2.load ⟨H.next, 1, none⟩ = some x := by rw [load_at (by rw [B_eq (row2.base.trans on.base)]; exact hnB) b1]; rfl
        have hu3 : UR H2 x U := hu2.on on.wf row2.onH
        obtain ⟨a, c, hx⟩ := hu3.len
        rw [List.length_map] at hx
        cases k2 with
        | zero =>
          have e1 : ¬ ((i : Int) < U.length) := by omega
          have e2 : i = U.length := by omega
          rw [hx] at ld1
          simp [L21_1, u7, u2, ld1, e1]
          cases m with
          | false =>
            obtain ⟨hX, hcl⟩ := hm0 rfl
            rw [e2] at hcl
            rw [hX] at hX2 hcl row2 fs2
            exact ⟨2 * cnt U X, by simp at hk; omega, X, o2, false, by simp, by simp [u2], by simp [u5], by simp [u6], row2, fs2, hX2, fun _ => hcl⟩
          | true =>
            have := hm1 rfl
            exact ⟨2 * cnt U X2 + 1, by simp at hk; omega, X2, o2, true, by simp, by simp [u2], by simp [u5], by simp [u6], row2, fs2, hX2, fun h => (by cases h)⟩
        | succ k2 =>
          have hil : i < U.length := by omega
          have e1 : ((i : Int) < U.length) := by omega
          have e4 : IntKind.i64.wrap ((i : Int) + 1) = ((i + 1 : Nat) : Int) := by rw [w64 _ (by omega)]; omega
          obtain ⟨b, off, c2, hxe, l0, l1⟩ := row_edges hu3 hil
          obtain ⟨iN, hiN⟩ : ∃ n : Nat, n = i + 1 := ⟨_, rfl⟩
          rw [← hiN] at e4
          rw [hxe] at ld1
          have hi2 := in_T (H := H2) row2.own.ints U[i].2 (by omega)
          have hi1 := in_T (H := H2) row2.own.ints U[i].1 (by omega)
          have pass : (U[i].2 ∈ X2 → U[i].1 ∈ X2) → ∀ tt : Tm, tt 2 = ptr H.next → tt 5 = o2 → tt 6 = .bool m → tt 7 = iv iN → ∃ m', m' < k2 + 1 ∧ InvF1 HE H.next U age X m' tt (rdy H2) := by
            intro hp tt g2 g5 g6 g7
            refine ⟨k2, by omega, iN, X2, o2, m, by omega, g2, g5, g6, g7, row2, fs2, hX2, fun h => ⟨(hm0 h).1, fun q hq hqi => ?_⟩, hm1⟩
            by_cases e : q = i
            · subst e; exact hp
            · exact (hm0 h).2 q hq (by omega)
          by_cases h2 : U[i].2 ∈ X2
          · rw [show decide (U[i].2 ∈ X2) = true by simpa using h2] at hi2
            by_cases h1 : U[i].1 ∈ X2
            · rw [show decide (U[i].1 ∈ X2) = true by simpa using h1] at hi1
              simp [L21_1, u7, u2, ld1, e1, hil, l1]
              refine goT_of (by rw [u5]; exact hi2) ?_
              simp [u2, ld1, u7, hil, l0]
              refine goT_of (by rw [u5]; exact hi1) ?_
              simp [u7, e4]
              exact pass (fun _ => h1) _ (by simp [u2]) (by simp [u5]) (by simp [u6]) (by simp)
            · rw [show decide (U[i].1 ∈ X2) = false by simpa using h1] at hi1
              obtain ⟨HA, ap, row3⟩ := row2.push [iv U[i].1] rfl (by decide) 8 (by omega)
              have hcm := cnt_more (X := X2) (List.getElem_mem hil) h1
              have q1 : (X2 ++ [U[i].1]).length = X2.length + 1 := by simp
              have q2 : (X2 ++ [U[i].1]).map iv = X2.map iv ++ [iv U[i].1] := by simp
              have hcnt : cnt U (X2 ++ [U[i].1]) < cnt U X := by
                cases m with
                | false => rw [← (hm0 rfl).1]; exact hcm
                | true => exact Nat.lt_trans hcm (hm1 rfl)
              simp [L21_1, u7, u2, ld1, e1, hil, l1]
              refine goT_of (by rw [u5]; exact hi2) ?_
              simp [u2, ld1, u7, hil, l0]
              refine goT_of (by rw [u5]; exact hi1) ?_
              simp [u7, u2, ld1, hil, l0, hz, u5, ap, e4]
              exact ⟨k2, by omega, iN, X2 ++ [U[i].1], _, true, by omega, by simp [u2], by simp; rfl, by simp, by simp, by rw [q1, q2]; exact row3, fs2.more (List.getElem_mem hil) h2, by rw [q1]; omega, fun h => (by cases h), fun _ => hcnt⟩
          · rw [show decide (U[i].2 ∈ X2) = false by simpa using h2] at hi2
            simp [L21_1, u7, u2, ld1, e1, hil, l1]
            refine goT_of (by rw [u5]; exact hi2) ?_
            simp [u7, e4]
            exact pass (fun h => absurd h h2) _ (by simp [u2]) (by simp [u5]) (by simp [u6]) (by simp)
end Go.Proofs.Ytadegahkgpedgaa
