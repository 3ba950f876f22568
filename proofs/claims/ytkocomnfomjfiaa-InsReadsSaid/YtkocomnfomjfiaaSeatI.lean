/-
  Chapter 8: the example of the chapter; each instruction by itself; each text; more reductions.
-/
import Derived.Test.YtkocomnfomjfiaaSeatH
namespace Go.Proofs.Ytkocomnfomjfiaa
open Go.Ot Go.RowKit
set_option linter.unusedSimpArgs false
set_option linter.unusedVariables false
def ex1 : In := ⟨2, 0, 3, 0, 0, -1⟩
def ex2 : In := ⟨9, 0, 3, 0, 0, 0⟩
def ex3 : In := ⟨1, 0, 0, 0, 0, 0⟩
set_option maxRecDepth 10000 in
theorem alive_T {H : Heap} (hw : H.WF) : ∃ v H', T Try.prog 15 [] H v H' ∧ v = .bool true := by
  refine T_by hm light15 ?_
  have hnB := hw.next_ge
  obtain ⟨cs, hcs⟩ : ∃ cs, cs = rowI ex1 ++ (rowI ex2 ++ rowI ex3) := ⟨_, rfl⟩
  obtain ⟨H1, hH1⟩ : ∃ H1, H1 = H.new 25 6 cs := ⟨_, rfl⟩
  have w1 : H1.WF := by rw [hH1]; exact WF_new hw _ _ _
  have bk : H1.blk H.next = some ⟨25, 6, cs⟩ := by rw [hH1]; simp
  have hB : ¬ H.next < H1.B := by rw [hH1]; exact hnB
  have rows : Rws H1 6 (sl H.next 3) ([ex1, ex2, ex3].map rowI) := by
    refine Own.rws (ety := 25) (l := [ex1, ex2, ex3].map rowI) (by intro r hr; obtain ⟨z, _, rfl⟩ := List.mem_map.1 hr; rfl) ?_
    exact Own.mk rfl hB (by rw [bk, hcs]; rfl)
  have row1 : ∀ c, Rws H1 6 (.slice (some ⟨H.next, 0, none⟩) 1 c) ([ex1].map rowI) := by
    intro c
    refine .inr ⟨H.next, 0, c, rfl, fun i hi => ?_⟩
    have : i = 0 := by simpa using hi
    subst this
    refine ⟨rfl, fun j hj => ?_⟩
    obtain ⟨b, off, cc, hb, _, _, h⟩ := rows.at (i := 0) (by decide)
    simp at hb
    obtain ⟨⟨rfl, rfl⟩, _⟩ := hb
    exact h j hj
  obtain ⟨v2, H2, T2, y, rfl, g2⟩ := encode_T w1 rows (by intro a ha; simp at ha; rcases ha with rfl | rfl | rfl <;> exact ⟨by decide, by decide⟩) 0
  have e2 : (checkV [ex1, ex2, ex3] 0).2 = 0 := by decide
  have u1 : encU 3 = [3] := encU_small (by decide)
  have u2 : encU 2 = [2] := encU_small (by decide)
  have u3 : encU 1 = [1] := encU_small (by decide)
  have u4 : encU 9 = [9] := encU_small (by decide)
  have f2 : encS [ex1, ex2, ex3] 0 = [3, 2, 3, 1, 9, 3, 1] := by
    unfold encS
    rw [if_pos e2]
    simp [encV, encAll, encIns, ex1, ex2, ex3, shp, none8, pairs, encPs, encP, zz, u1, u2, u3, u4]
  rw [e2] at T2
  rw [f2] at g2
  have z2 := toStr_bs (own_bs g2.own)
  have w2 := g2.wf
  obtain ⟨a2, ha2⟩ := g2.own.len
  have row2 : ∀ c, Rws H2 6 (.slice (some ⟨H.next, 0, none⟩) 1 c) ([ex1].map rowI) := fun c => (row1 c).keep w1 g2.base (OG.olds g2)
  have T3 : ∀ c, ∃ v H', T Try.prog 16 [.slice (some ⟨H.next, 0, none⟩) 1 c, iv 0] H2 v H' ∧ v = .tuple #[iv (checkV [ex1] 0).1, iv (checkV [ex1] 0).2] ∧ Same H2 H' [] := fun c => check_T w2 (row2 c) 0
  have e3 : checkV [ex1] 0 = (0, 85) := by decide
  rw [e3] at T3
  have seven : (⟨#[3, 2, 3, 1, 9, 3, 1]⟩ : ByteArray) = strB [3, 2, 3, 1, 9, 3, 1] := rfl
  have q := eql_str (a := [3, 2, 3, 1, 9, 3, 1]) (b := [3, 2, 3, 1, 9, 3, 1]) (by simp) (by simp)
  simp only [decide_true] at q
  have z18 : zerosA [.int .i64 0, .int .i64 0, .int .i64 0, .int .i64 0, .int .i64 0, .int .i64 0] 18 = List.replicate 18 (iv 0) := rfl
  have hH1' : H.new 25 6 [iv 2, iv 0, iv 3, iv 0, iv 0, iv (-1), iv 9, iv 0, iv 3, iv 0, iv 0, iv 0, iv 1, iv 0, iv 0, iv 0, iv 0, iv 0] = H1 := by rw [hH1, hcs]; rfl
  simp [L15, z18, List.replicate]
  rw [hH1']
  refine goT_of T2 ?_
  simp [sSlice, bnd]
  obtain ⟨v3, H3, T3', rfl, s3⟩ := T3 1
  have w3 := T3'.grow.wf w2
  have lo3 : ∀ j, H3.load ⟨H.next, j, none⟩ = cs[j]? := fun j => by
    have hlt : H.next < H1.next := w1.lt bk
    have n2 := g2.next
    rw [load_frame T3'.1 (s3 _ (by omega) (by simp)), load_frame g2.base (OG.olds g2 _ hlt), load_at hB bk]
  have ln0 : H3.loadN ⟨H.next, 0, none⟩ 0 6 = some (rowI ex1) := loadN_cells (l := rowI ex1) (i := 0) (fun j hj => by
    rw [lo3, hcs, List.getElem?_append_left (by simpa using hj)]; simp [hj])
  have ln2 : H3.loadN ⟨H.next, 12, none⟩ 0 6 = some (rowI ex3) := loadN_cells (l := rowI ex3) (i := 0) (fun j hj => by
    rw [lo3, hcs]
    match j, hj with
    | 0, _ => rfl
    | 1, _ => rfl
    | 2, _ => rfl
    | 3, _ => rfl
    | 4, _ => rfl
    | 5, _ => rfl)
  obtain ⟨v4, H4, T4, rfl, s4⟩ := falls_T w3 ex1
  have f4 : fallsV ex1.kind = true := by decide
  rw [f4] at T4
  have ln2' : H4.loadN ⟨H.next, 12, none⟩ 0 6 = some (rowI ex3) := loadN_cells (l := rowI ex3) (i := 0) (fun j hj => by
    have hlt : H.next < H1.next := w1.lt bk
    have n2 := g2.next
    have n3 := T3'.grow.next
    rw [load_frame T4.1 (s4 _ (by omega) (by simp)), lo3, hcs]
    match j, hj with
    | 0, _ => rfl
    | 1, _ => rfl
    | 2, _ => rfl
    | 3, _ => rfl
    | 4, _ => rfl
    | 5, _ => rfl)
  obtain ⟨v5, H5, T5, rfl, s5⟩ := falls_T (T4.grow.wf w3) ex3
  have f5 : fallsV ex3.kind = false := by decide
  rw [f5] at T5
  refine goT_of T3' ?_
  have z2' : sToStr H3 y = some (.string (strB [3, 2, 3, 1, 9, 3, 1])) := toStr_bs ((own_bs g2.own).keep w2 T3'.1 (fun b hb => s3 b hb (by simp)))
  simp [z2', seven, q, ln0]
  refine goT_of T4 ?_
  simp [ln2']
  refine goT_of T5 ?_
  simp
end Go.Proofs.Ytkocomnfomjfiaa
