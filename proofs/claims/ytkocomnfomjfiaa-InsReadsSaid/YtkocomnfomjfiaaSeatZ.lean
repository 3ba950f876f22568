/-
  Chapter 8: a text taken up, by the program: an instruction.
-/
import Derived.Test.YtkocomnfomjfiaaSeatY
namespace Go.Proofs.Ytkocomnfomjfiaa
open Go.Ot Go.RowKit
set_option linter.unusedSimpArgs false
set_option linter.unusedVariables false
theorem rows_push {H G : Heap} {p : Nat} {xr : Value} {b l : List Nat} {f : Nat} (R : Rn H G p xr b l f) {n : Nat} {cells : List Value} {y : Value} (own : Own G 25 6 n cells y) (yn : ∀ c, blkOf y = some c → H.next ≤ c) (row : List Value) (hr : row.length = 6) (hb : (n + 1) * 48 ≤ 140737488355328) :
    ∃ a GA, sAppend (G.new 25 6 row) 25 6 48 y (.slice (some ⟨G.next, 0, none⟩) 1 0) = some (.slice (some a) (n + 1) 0, GA) ∧ Rn H GA p xr b l f ∧ Own GA 25 6 (n + 1) (cells ++ row) (.slice (some a) (n + 1) 0) ∧ (∀ c, blkOf (.slice (some a) (n + 1) 0) = some c → H.next ≤ c) := by
  have hw := R.wf
  have hnB := hw.next_ge
  have hn := R.next
  have hpp := R.hp
  have hsrc : srcCells (G.new 25 6 row) 6 (.slice (some ⟨G.next, 0, none⟩) 1 0) = some (1, row) := by
    rw [src_at (ety := 25) (cs := row) (by simpa using hnB) (by simp) (by omega)]
    simp [List.take_of_length_le, hr]
  have hap := append_any (bytes := 48) (own.new hw 25 6 row) hsrc (by omega) hb
  have hyp : blkOf y ≠ some p := fun e => by have := yn _ e; omega
  have keep : ∀ c, c < H.next → (((G.new 25 6 row).drop y).new 25 6 (cells ++ row)).blk c = G.blk c := fun c hc => by
    have hy : blkOf y ≠ some c := fun e => by have := yn _ e; omega
    simp [show c ≠ G.next by omega, show c ≠ G.next + 1 by omega, blk_drop, hy]
  refine ⟨_, _, hap, ⟨R.rs.frame (by simp) (keep p hpp) (fun c hc => keep c (R.xl c hc)), R.wf0, WF_new (WF_drop (WF_new hw _ _ _) _) _ _ _, by simpa using R.base, by simp; omega, fun c hc hne => (keep c hc).trans (R.same c hc hne), hpp, R.xl⟩, ?_, ?_⟩
  · refine Own.mk (by simp [own.1, hr, Nat.add_mul]) (by simp; omega) ?_
    simp
  · intro c hc
    simp at hc; omega
theorem op_w {H G : Heap} {p px ps : Nat} {xr : Value} {b : List Nat} {s0 : St} {h : Sh} (R : Rn H G p xr b s0.2.1 s0.2.2) (hpx : H.next ≤ px) (V : Vr G px 25 6 (rowI s0.1)) (S : Vr G ps 53 8 (rowS h))
    {t : Tm} (t6 : t 6 = ptr p) (t9 : t 9 = ptr px) (t10 : t 10 = ptr ps) {Q : Post}
    (hQ : ∀ (t' : Tm) (G' : Heap), Kq t t' → Rn H G' p xr b (stU 256 (h.one || h.two) setOp s0).2.1 (stU 256 (h.one || h.two) setOp s0).2.2 → Vr G' px 25 6 (rowI (stU 256 (h.one || h.two) setOp s0).1) → Ow G G' p px → Q .normal t' (rdy G')) : wpA Try.prog (A22 6) Q t (rdy G) := by
  have ls := S.load
  simp only [rowS] at ls
  obtain ⟨x, l, f⟩ := s0
  simp only at R V hQ
  have hpp : p ≠ px := by have := R.hp; omega
  have T2 := rsmall_T R.rs
  have R2 := R.step (rdP 256 l f).2.2 (rdP_suf 256 l f)
  have V2 := V.beside hpp.symm (rsC xr b (rdP 256 l f).2.1 (rdP 256 l f).2.2)
  have O2 : Ow G (G.put p (rsC xr b (rdP 256 l f).2.1 (rdP 256 l f).2.2)) p px := ⟨by simp, by simp, fun q _ h2 _ => by simp [h2]⟩
  have st3 := V2.store 1 (iv ((rdP 256 l f).1 : Int)) (by simp [rowI])
  have hst : stU 256 true setOp (x, l, f) = (setOp x ((rdP 256 l f).1 : Int), (rdP 256 l f).2) := rfl
  obtain ⟨v, hv⟩ : ∃ v : Int, v = ((rdP 256 l f).1 : Int) := ⟨_, rfl⟩
  rw [← hv] at T2 st3 hst
  obtain ⟨G2, hG2⟩ : ∃ G2, G2 = G.put p (rsC xr b (rdP 256 l f).2.1 (rdP 256 l f).2.2) := ⟨_, rfl⟩
  rw [← hG2] at T2 R2 V2 st3 O2
  have hset : (rowI x).set 1 (iv v) = rowI (setOp x v) := rfl
  rw [hset] at st3
  have R3 := R2.put hpx (rowI (setOp x v))
  have V3 := V2.put (rowI (setOp x v))
  have O3 : Ow G2 (G2.put px (rowI (setOp x v))) p px := ⟨by simp, by simp, fun q _ _ h3 => by simp [h3]⟩
  cases h1 : h.one with
  | true =>
    rw [h1, Bool.true_or, hst] at hQ
    simp [A22, L22_2, t10, ls, h1]
    refine goT_of (by rw [t6]; exact T2) ?_
    simp [t9, st3]
    refine hQ _ _ ?_ R3 V3 (O2.trans O3)
    repeat (refine Kq.put ?_ _ _ (by decide))
    exact Kq.refl t
  | false =>
    cases h2 : h.two with
    | true =>
      rw [h1, h2, Bool.false_or, hst] at hQ
      simp [A22, L22_2, t10, ls, h1, h2]
      refine goT_of (by rw [t6]; exact T2) ?_
      simp [t9, st3]
      refine hQ _ _ ?_ R3 V3 (O2.trans O3)
      repeat (refine Kq.put ?_ _ _ (by decide))
      exact Kq.refl t
    | false =>
      rw [h1, h2] at hQ
      simp [A22, L22_2, t10, ls, h1, h2]
      refine hQ _ G ?_ R V (Ow.refl _ _ _)
      repeat (refine Kq.put ?_ _ _ (by decide))
      exact Kq.refl t
theorem k_w {H G : Heap} {p px ps : Nat} {xr : Value} {b : List Nat} {s0 : St} {h : Sh} (R : Rn H G p xr b s0.2.1 s0.2.2) (hpx : H.next ≤ px) (V : Vr G px 25 6 (rowI s0.1)) (S : Vr G ps 53 8 (rowS h))
    {t : Tm} (t6 : t 6 = ptr p) (t9 : t 9 = ptr px) (t10 : t 10 = ptr ps) {Q : Post}
    (hQ : ∀ (t' : Tm) (G' : Heap), Kq t t' → Rn H G' p xr b (stK h.k s0).2.1 (stK h.k s0).2.2 → Vr G' px 25 6 (rowI (stK h.k s0).1) → Ow G G' p px → Q .normal t' (rdy G')) : wpA Try.prog (A22 8) Q t (rdy G) := by
  have ls := S.load
  simp only [rowS] at ls
  obtain ⟨x, l, f⟩ := s0
  simp only at R V hQ
  have hpp : p ≠ px := by have := R.hp; omega
  cases h1 : h.k with
  | false =>
    rw [h1] at hQ
    simp [A22, L22_2, t10, ls, h1]
    refine hQ _ G ?_ R V (Ow.refl _ _ _)
    repeat (refine Kq.put ?_ _ _ (by decide))
    exact Kq.refl t
  | true =>
    have T2 := rint_T R.rs
    have R2 := R.step (iS l f).2.2 (uS_suf l f)
    have V2 := V.beside hpp.symm (rsC xr b (iS l f).2.1 (iS l f).2.2)
    have O2 : Ow G (G.put p (rsC xr b (iS l f).2.1 (iS l f).2.2)) p px := ⟨by simp, by simp, fun q _ h2 _ => by simp [h2]⟩
    have st3 := V2.store 5 (iv (iS l f).1) (by simp [rowI])
    have hst : stK true (x, l, f) = ({ x with k := (iS l f).1 }, (iS l f).2) := rfl
    rw [h1, hst] at hQ
    obtain ⟨v, hv⟩ : ∃ v : Int, v = (iS l f).1 := ⟨_, rfl⟩
    rw [← hv] at T2 st3 hQ
    obtain ⟨G2, hG2⟩ : ∃ G2, G2 = G.put p (rsC xr b (iS l f).2.1 (iS l f).2.2) := ⟨_, rfl⟩
    rw [← hG2] at T2 V2 st3 O2
    have R2' : Rn H G2 p xr b (iS l f).2.1 (iS l f).2.2 := by rw [hG2]; exact R2
    have hset : (rowI x).set 5 (iv v) = rowI { x with k := v } := rfl
    rw [hset] at st3
    have R3 := R2'.put hpx (rowI { x with k := v })
    have V3 := V2.put (rowI { x with k := v })
    have O3 : Ow G2 (G2.put px (rowI { x with k := v })) p px := ⟨by simp, by simp, fun q _ _ h3 => by simp [h3]⟩
    simp [A22, L22_2, t10, ls, h1]
    refine goT_of (by rw [t6]; exact T2) ?_
    simp [t9, st3]
    refine hQ _ _ ?_ R3 V3 (O2.trans O3)
    repeat (refine Kq.put ?_ _ _ (by decide))
    exact Kq.refl t
theorem app_w {H G : Heap} {p px : Nat} {xr y : Value} {b l : List Nat} {f : Nat} {x : In} {acc : List In} (R : Rn H G p xr b l f) (V : Vr G px 25 6 (rowI x)) (own : Own G 25 6 acc.length (acc.map rowI).flatten y) (yn : ∀ c, blkOf y = some c → H.next ≤ c) (hl : acc.length ≤ 1000000)
    {t : Tm} (t8 : t 8 = y) (t9 : t 9 = ptr px) {Q : Post}
    (hQ : ∀ (t' : Tm) (G' : Heap) (y' : Value), t' 0 = t 0 → t' 1 = t 1 → t' 6 = t 6 → t' 8 = y' → t' 22 = t 22 → t' 23 = t 23 → Rn H G' p xr b l f → Own G' 25 6 (acc ++ [x]).length ((acc ++ [x]).map rowI).flatten y' → (∀ c, blkOf y' = some c → H.next ≤ c) → Q .normal t' (rdy G')) : wpA Try.prog (A22 9) Q t (rdy G) := by
  have la := V.loadA (m := 6) rfl
  obtain ⟨a, GA, ap, RA, oA, nA⟩ := rows_push R own yn (rowI x) rfl (by omega)
  have z6 : zerosA [.int .i64 0, .int .i64 0, .int .i64 0, .int .i64 0, .int .i64 0, .int .i64 0] 6 = [.int .i64 0, .int .i64 0, .int .i64 0, .int .i64 0, .int .i64 0, .int .i64 0] := rfl
  have oA' : Own GA 25 6 (acc ++ [x]).length ((acc ++ [x]).map rowI).flatten (.slice (some a) (acc.length + 1) 0) := by simpa using oA
  simp only [rowI] at la ap
  simp [A22, L22_2, t8, t9, la, z6, ap]
  exact hQ _ GA (.slice (some a) (acc.length + 1) 0) (by simp) (by simp) (by simp) (by simp) (by simp) (by simp) RA oA' nA
end Go.Proofs.Ytkocomnfomjfiaa
