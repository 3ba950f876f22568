/-
  Chapter 25: the document's Text.
-/
import Derived.Test.YtmdlfenileiaeaaSeatAA
namespace Go.Proofs.Ytmdlfenileiaeaa
open Go.Ot Go.RowKit
open Tx (decF decN decI strB strB_size byteNums_bv decI_len)
set_option linter.unusedSimpArgs false
set_option linter.unusedVariables false
def L16b : LCode := blkC (seqL (seqR L16_1))
def Ld2 : LCode := seqR (seqR (seqR L16b))
def Ld3 : LCode := seqR Ld2
def Ld4 : LCode := seqR Ld3
def Ld5 : LCode := seqR Ld4
theorem L16_1_eq : L16_1 = .seq (seqL L16_1) (.seq (.block 1 (.seq (seqL L16b) (.seq (seqL (seqR L16b)) (.seq (seqL (seqR (seqR L16b))) Ld2)))) (seqR (seqR L16_1))) := rfl
theorem Ld2_eq : Ld2 = .seq (seqL Ld2) Ld3 := rfl
theorem Ld3_eq : Ld3 = .seq (seqL Ld3) Ld4 := rfl
theorem Ld4_eq : Ld4 = .seq (seqL Ld4) Ld5 := rfl
section
variable {H : Heap} (hw : H.WF) {x : Value} {l : List Ent} (hx : Rl H x l) (hl : l.length ≤ 40000) {i many : Nat} (hil : i < l.length) (hmn : 1 ≤ many ∧ many ≤ i + 1) {e : Ent} (he : l[i]? = some e) {Q : Post} {b : List Nat} (hbad : ¬ badE e)
    (hN : ∀ (tt : Tm) H' bx', tt 0 = x → tt 4 = bx' → tt 5 = iv 0 → tt 6 = iv i → Bo H H' (b ++ sep b ++ grpB e many) bx' → Q .normal tt (rdy H'))
include hl hil hmn hN
theorem dgrp5 {H1 : Heap} {b' : List Nat} {bx : Value} (bo : Bo H H1 b' bx) (hb' : b'.length ≤ 50 * i + 22) (hE : b' = b ++ sep b ++ entB e)
    {t : Tm} (t0 : t 0 = x) (t4 : t 4 = bx) (t5 : t 5 = iv many) (t6 : t 6 = iv i) : wpA Try.prog Ld5 Q t (rdy H1) := by
  by_cases hk : 1 < many
  · have c1 : (1 : Int) < (many : Int) := by omega
    obtain ⟨z, H2, q1, q2⟩ := bo_one bo 42 (by omega)
    have tT := refTextN_T q2.on.wf (n := (many : Int)) (by omega) (by omega)
    rw [show ((many : Int)).toNat = many from rfl] at tT
    obtain ⟨z2, H3, q3, q4⟩ := bo_str q2 (l := decN many) (decN_ok (by omega)).2.2.1 (dec_byte (by omega)) (by have := dec_len many; simp; omega)
    have hz : zerosA [Value.int .u8 0] 1 = [.int .u8 0] := rfl
    have hfin : b' ++ [42] ++ decN many = b ++ sep b ++ grpB e many := by rw [hE]; unfold grpB; rw [if_pos hk]; simp
    rw [hfin] at q4
    simp only [bv] at q1
    simp only [show ((42 : Nat) : Int) = (42 : Int) from rfl] at q1
    simp [Ld5, Ld4, Ld3, Ld2, L16b, L16_1, blkC, seqR, seqL, t5, c1, hk, t4, hz, q1]
    refine goT_of tT ?_
    simp [q3]
    exact hN _ _ z2 (by simp [t0]) (by simp) (by simp) (by simp [t6]) q4
  · have c1 : ¬ (1 : Int) < (many : Int) := by omega
    have hfin : b' = b ++ sep b ++ grpB e many := by rw [hE]; unfold grpB; rw [if_neg hk]; simp
    rw [hfin] at bo
    simp [Ld5, Ld4, Ld3, Ld2, L16b, L16_1, blkC, seqR, seqL, t5, c1, hk]
    exact hN _ _ bx (by simp [t0]) (by simp [t4]) (by simp) (by simp [t6]) bo
include hw hx he hbad
theorem dgrp4 {H1 : Heap} {b' : List Nat} {bx : Value} (bo : Bo H H1 b' bx) (hb' : b'.length ≤ 50 * i + 2) (hE : b' ++ decN e.1.toNat = b ++ sep b ++ entB e)
    {t : Tm} (t0 : t 0 = x) (t4 : t 4 = bx) (t5 : t 5 = iv many) (t6 : t 6 = iv i) : wpA Try.prog Ld4 Q t (rdy H1) := by
  have hilI : (i : Int) < (l.length : Int) := by omega
  have hei : l[i] = e := by rw [List.getElem?_eq_getElem hil] at he; exact Option.some.inj he
  obtain ⟨q, off, c, hxb, _, ld0, _⟩ := (hx.on hw bo.on).get hil
  rw [hei] at ld0
  have hb31 := hbad
  unfold badE at hb31
  have tT := refTextN_T bo.on.wf (n := e.1) (by omega) (by omega)
  have d1 := (decN_ok (u := e.1.toNat) (by omega)).2.2.1
  have d2 := dec_byte (u := e.1.toNat) (by omega)
  have d3 := dec_len e.1.toNat
  obtain ⟨z2, H3, q3, q4⟩ := bo_str bo d1 d2 (by omega)
  have g := @dgrp5 H x l hl i many hil hmn e Q b hN H3 _ z2 q4 (by simp; omega) hE
  rw [Ld4_eq]
  have t0' := t0
  rw [hxb] at t0
  simp [Ld4, Ld3, Ld2, L16b, L16_1, blkC, seqR, seqL, t0, t6, hil, hilI, ld0]
  refine goT_of tT ?_
  simp [t4, q3]
  exact g (by simp [t0']) (by simp) (by simp [t5]) (by simp [t6])
theorem dgrp3 {H1 : Heap} {b' : List Nat} {bx : Value} (bo : Bo H H1 b' bx) (hb' : b'.length ≤ 50 * i + 1) (hE : b' = b ++ sep b)
    {t : Tm} (t0 : t 0 = x) (t4 : t 4 = bx) (t5 : t 5 = iv many) (t6 : t 6 = iv i) : wpA Try.prog Ld3 Q t (rdy H1) := by
  have hilI : (i : Int) < (l.length : Int) := by omega
  have hei : l[i] = e := by rw [List.getElem?_eq_getElem hil] at he; exact Option.some.inj he
  obtain ⟨q, off, c, hxb, _, _, ld1⟩ := (hx.on hw bo.on).get hil
  rw [hei] at ld1
  have hz : zerosA [Value.int .u8 0] 1 = [.int .u8 0] := rfl
  rw [Ld3_eq]
  have t0' := t0
  rw [hxb] at t0
  by_cases hab : e.2 = true
  · obtain ⟨z, H2, q1, q2⟩ := bo_one bo 33 (by omega)
    have g := @dgrp4 H hw x l hx hl i many hil hmn e he Q b hbad hN H2 _ z q2 (by simp; omega) (by rw [hE]; unfold entB; rw [if_pos hab]; simp)
    rw [hab] at ld1
    simp only [bv] at q1
    simp only [show ((33 : Nat) : Int) = (33 : Int) from rfl] at q1
    simp [Ld3, Ld2, L16b, L16_1, blkC, seqR, seqL, t0, t6, hil, hilI, ld1, t4, hz, q1]
    exact g (by simp [t0']) (by simp) (by simp [t5]) (by simp [t6])
  · have g := @dgrp4 H hw x l hx hl i many hil hmn e he Q b hbad hN H1 _ bx bo (by omega) (by rw [hE]; unfold entB; rw [if_neg hab]; simp)
    have hab' : e.2 = false := by simpa using hab
    rw [hab'] at ld1
    simp [Ld3, Ld2, L16b, L16_1, blkC, seqR, seqL, t0, t6, hil, hilI, ld1]
    exact g (by simp [t0']) (by simp [t4]) (by simp [t5]) (by simp [t6])
theorem dgrp2 {H1 : Heap} {bx : Value} (bo : Bo H H1 b bx) (hb : b.length ≤ 50 * i)
    {t : Tm} (t0 : t 0 = x) (t4 : t 4 = bx) (t5 : t 5 = iv many) (t6 : t 6 = iv i) : wpA Try.prog Ld2 Q t (rdy H1) := by
  have hz : zerosA [Value.int .u8 0] 1 = [.int .u8 0] := rfl
  obtain ⟨ab, hbx⟩ := bo.own.len
  rw [Ld2_eq]
  have t4' := t4
  by_cases h0 : 0 < b.length
  · have h0I : (0 : Int) < (b.length : Int) := by omega
    have hbn : b ≠ [] := List.length_pos_iff.1 h0
    obtain ⟨z, H2, q1, q2⟩ := bo_one bo 32 (by omega)
    have g := @dgrp3 H hw x l hx hl i many hil hmn e he Q b hbad hN H2 _ z q2 (by simp; omega) (by unfold sep; rw [if_neg hbn])
    simp only [bv] at q1
    simp only [show ((32 : Nat) : Int) = (32 : Int) from rfl] at q1
    rw [hbx] at t4 q1
    simp [Ld2, L16b, L16_1, blkC, seqR, seqL, t4, h0, h0I, hz, q1]
    exact g (by simp [t0]) (by simp) (by simp [t5]) (by simp [t6])
  · have h0I : ¬ (0 : Int) < (b.length : Int) := by omega
    have hbn : b = [] := List.length_eq_zero_iff.1 (by omega)
    have g := @dgrp3 H hw x l hx hl i many hil hmn e he Q b hbad hN H1 _ bx bo (by omega) (by unfold sep; rw [if_pos hbn]; simp)
    rw [hbx] at t4
    simp [Ld2, L16b, L16_1, blkC, seqR, seqL, t4, h0, h0I]
    exact g (by simp [t0]) (by simp [t4']) (by simp [t5]) (by simp [t6])
end
def InvD1 (H : Heap) (x : Value) (l : List Ent) (RR : Option (List Nat)) (k : Nat) (t : Tm) (H1 : Heap) : Prop :=
  ∃ (i many : Nat) (b : List Nat) (bx : Value), i + k = l.length ∧ many ≤ i ∧ t 0 = x ∧ t 4 = bx ∧ t 5 = iv many ∧ t 6 = iv i ∧ Bo H H1 b bx ∧ b.length ≤ 50 * i ∧ txt (l.drop i) many b = RR
theorem refText_T {H : Heap} (hw : H.WF) {x : Value} {l : List Ent} (hx : Rl H x l) (hl : l.length ≤ 100000) :
    T Try.prog 16 [x] H (if 40000 < l.length then .tuple #[.string ByteArray.empty, iv 251] else txtV (txt l 0 [])) H := by
  obtain ⟨V, hV⟩ : ∃ V : Value, V = (if 40000 < l.length then .tuple #[.string ByteArray.empty, iv 251] else txtV (txt l 0 [])) := ⟨_, rfl⟩
  rw [← hV]
  refine T_seen hm light16 ?_ ?_
  · rw [hV]
    split
    · rfl
    · unfold txtV
      split
      · rfl
      · split <;> rfl
  obtain ⟨a0, c0, hx0⟩ := hx.len
  have hxs := hx0
  by_cases hbig : 40000 < l.length
  · rw [if_pos hbig] at hV
    have c1 : (40000 : Int) < (l.length : Int) := by omega
    rw [hx0]
    simp [L16, c1, hbig, hV]
  rw [if_neg hbig] at hV
  have c1 : ¬ (40000 : Int) < (l.length : Int) := by omega
  rw [hx0]
  simp [L16, c1, hbig]
  rw [← hx0]
  refine loop_at (InvD1 H x l (txt l 0 [])) l.length ?_ ?_
  · exact ⟨0, 0, [], .slice none 0 0, by omega, Nat.le_refl _, by simp, by simp, by simp, by simp, Row.nil hw _ _, by simp, by simp⟩
  · rintro k t H1 ⟨i, many, b, bx, hik, hmi, t0, t4, t5, t6, bo, hbl, hR⟩
    obtain ⟨ab, hbx⟩ := bo.own.len
    by_cases hil : i < l.length
    · have e1 : ((i : Int) < l.length) := by omega
      have hx1 := hx.on hw bo.on
      obtain ⟨q, off, c, hxb, lde, lde0, lde1⟩ := hx1.get hil
      obtain ⟨e, he⟩ : ∃ e, e = l[i] := ⟨_, rfl⟩
      rw [← he] at lde lde0 lde1
      have t0' := t0
      rw [hxb] at t0
      have e4 : IntKind.i64.wrap ((i : Int) + 1) = ((i + 1 : Nat) : Int) := by rw [w64 _ (by omega)]; omega
      have e5 : IntKind.i64.wrap ((many : Int) + 1) = ((many + 1 : Nat) : Int) := by rw [w64 _ (by omega)]; omega
      obtain ⟨iN, hiN⟩ : ∃ n : Nat, n = i + 1 := ⟨_, rfl⟩
      obtain ⟨mN, hmN⟩ : ∃ n : Nat, n = many + 1 := ⟨_, rfl⟩
      rw [← hiN] at e4
      rw [← hmN] at e5
      by_cases hbad : badE e
      · have hn : txt (l.drop i) many b = none := txt_bad hil (by rw [← he]; exact hbad) many b
        rw [hn] at hR
        rw [← hR] at hV
        have hV : V = .tuple #[.string ByteArray.empty, iv 250] := hV
        unfold badE at hbad
        by_cases h1 : e.1 < 0
        · simp [L16_1, t6, t0, e1, hil, lde0, h1, hV]
          exact bo.on.keep
        · have h2 : 2147483647 < e.1 := by omega
          simp [L16_1, t6, t0, e1, hil, lde0, h1, h2, hV]
          exact bo.on.keep
      · have h1 : ¬ e.1 < 0 := fun h => hbad (.inl h)
        have h2 : ¬ 2147483647 < e.1 := fun h => hbad (.inr h)
        rw [List.drop_eq_getElem_cons hil, ← he, txt, if_neg hbad, ← hmN, ← hiN, List.head?_drop] at hR
        -- the end of a run
        have next : l[iN]? ≠ some e → ∀ (tt : Tm) H' bx', tt 0 = x → tt 4 = bx' → tt 5 = iv 0 → tt 6 = iv iN → Bo H H' (b ++ sep b ++ grpB e mN) bx' → ∃ m, m < k ∧ InvD1 H x l (txt l 0 []) m tt H' := by
          intro hend tt H' bx' v0 v4 v5 v6 bo'
          rw [if_neg hend] at hR
          have hgl : (grpB e mN).length ≤ 42 := by
            have h1 := dec_len e.1.toNat
            have h2 := dec_len mN
            unfold grpB entB
            simp only [List.length_append]
            split <;> split <;> simp <;> omega
          have hsl : (sep b).length ≤ 1 := by unfold sep; split <;> simp
          exact ⟨k - 1, by omega, iN, 0, _, bx', by omega, by omega, v0, v4, v5, v6, bo', by simp only [List.length_append]; omega, hR⟩
        have hge : l[i]? = some e := by rw [List.getElem?_eq_getElem hil, he]
        rw [L16_1_eq]
        by_cases hj : iN < l.length
        · have c3 : (iN : Int) < (l.length : Int) := by omega
          obtain ⟨q2, off2, c2, hxb2, ldj, _, _⟩ := hx1.get hj
          have hq : q2 = q ∧ off2 = off := by
            rw [hxb] at hxb2
            simp at hxb2
            exact ⟨hxb2.1.1.symm, hxb2.1.2.symm⟩
          obtain ⟨rfl, rfl⟩ := hq
          simp [L16b, L16_1, blkC, seqL, seqR, t6, t0, e1, hil, lde0, h1, h2, t5, e5, e4, c3, hj, ldj, lde]
          rw [wpP_eqR0]
          refine goE_of (by rfl) (by rfl) (eqN l[iN] e) ?_
          by_cases hje : l[iN] = e
          · rw [if_pos (by rw [List.getElem?_eq_getElem hj, hje])] at hR
            simp [hje, t6, e4]
            exact ⟨k - 1, by omega, iN, mN, b, bx, by omega, by omega, by simp [t0'], by simp [t4], by simp, by simp, bo, by omega, hR⟩
          · simp [hje]
            refine dgrp2 hw hx (by omega) hil (many := mN) (by omega) hge hbad ?_ bo hbl (by simp [t0']) (by simp [t4]) (by simp) (by simp [t6])
            intro tt H' bx' v0 v4 v5 v6 bo'
            simp [v6, e4]
            exact next (by rw [List.getElem?_eq_getElem hj]; exact fun h => hje (Option.some.inj h)) _ H' bx' (by simp [v0]) (by simp [v4]) (by simp [v5]) (by simp) bo'
        · have c3 : ¬ (iN : Int) < (l.length : Int) := by omega
          simp [L16b, L16_1, blkC, seqL, seqR, t6, t0, e1, hil, lde0, h1, h2, t5, e5, e4, c3, hj]
          refine dgrp2 hw hx (by omega) hil (many := mN) (by omega) hge hbad ?_ bo hbl (by simp [t0']) (by simp [t4]) (by simp) (by simp [t6])
          intro tt H' bx' v0 v4 v5 v6 bo'
          simp [v6, e4]
          exact next (by rw [List.getElem?_eq_none (by omega)]; simp) _ H' bx' (by simp [v0]) (by simp [v4]) (by simp [v5]) (by simp) bo'
    · have e1 : ¬ ((i : Int) < l.length) := by omega
      have ei : l.drop i = [] := List.drop_eq_nil_iff.2 (by omega)
      rw [ei] at hR
      have hR : some b = txt l 0 [] := hR
      rw [← hR] at hV
      unfold txtV at hV
      simp only at hV
      have os := bo_out bo
      rw [hbx] at os t4
      rw [hxs] at t0
      by_cases h8 : 8192 < b.length
      · have h8i : (8192 : Int) < (b.length : Int) := by omega
        rw [if_pos h8] at hV
        simp [L16_1, t6, t0, e1, hil, t4, h8, h8i, hV]
        exact bo.on.keep
      · have h8i : ¬ (8192 : Int) < (b.length : Int) := by omega
        rw [if_neg h8] at hV
        simp [L16_1, t6, t0, e1, hil, t4, h8, h8i, os, hV]
        exact bo.on.keep
end Go.Proofs.Ytmdlfenileiaeaa
