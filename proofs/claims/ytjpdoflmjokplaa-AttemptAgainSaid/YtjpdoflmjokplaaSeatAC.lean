/-
  Chapter 22: the document's Note. Chapter 22: the document's Note where a read is added. Chapter 22: the document's Note, whole.
-/
import Derived.Test.YtjpdoflmjokplaaSeatY
namespace Go.Proofs.Ytjpdoflmjokplaa
open Go.Ot Go.RowKit
set_option linter.unusedSimpArgs false
set_option linter.unusedVariables false
theorem refNote_no {H : Heap} (hw : H.WF) (d : DL) {rs : List R3} (hx : Rws H 3 d.xr (rs.map row3)) (r : R3) (hl : rs.length ≤ 1000) (hno : 0 ≤ rIdx r.1 rs ∨ (rs.length : Int) = d.mr) :
    ∃ v H', T Try.prog 29 [dA d, .agg (row3 r).toArray] H v H' ∧ v = .tuple #[dA d, iv (noteC rs r d.mr)] ∧ Xt H H' := by
  have hnB := hw.next_ge
  obtain ⟨HA, hHA⟩ : ∃ HA, HA = H.new 44 8 (dl d) := ⟨_, rfl⟩
  obtain ⟨HB, hHB⟩ : ∃ HB, HB = HA.new 78 3 (row3 r) := ⟨_, rfl⟩
  obtain ⟨HC, hHC⟩ : ∃ HC, HC = HB.new 44 8 z8 := ⟨_, rfl⟩
  have wA : HA.WF := by rw [hHA]; exact WF_new hw _ _ _
  have wB : HB.WF := by rw [hHB]; exact WF_new wA _ _ _
  have wC : HC.WF := by rw [hHC]; exact WF_new wB _ _ _
  have nA : HA.next = H.next + 1 := by rw [hHA]; simp
  have nB : HB.next = H.next + 2 := by rw [hHB]; simp [nA]
  have X : Xt H HC := by rw [hHC, hHB, hHA]; exact (((Xt.refl hw).new _ _ _).new _ _ _).new _ _ _
  have V : Vr HC H.next 44 8 (dl d) := by
    rw [hHC, hHB, hHA]
    exact ((Vr.mk' hw 44 8 (dl d)).new (WF_new hw _ _ _) _ _ _).new (by rw [← hHA, ← hHB]; exact wB) _ _ _
  have R : Vr HC (H.next + 2) 44 8 z8 := by rw [hHC, ← nB]; exact Vr.mk' wB _ _ _
  have P : Vr HC (H.next + 1) 78 3 (row3 r) := by rw [hHC, hHB, ← nA]; exact (Vr.mk' wA 78 3 (row3 r)).new (by rw [← hHB]; exact wB) _ _ _
  obtain ⟨HF, hHF⟩ : ∃ HF, HF = HC.put (H.next + 2) (dl d) := ⟨_, rfl⟩
  have sF : sStore HC 8 (ptr (H.next + 2)) (.agg (dl d).toArray) = some HF := by rw [hHF]; exact R.storeA (m := 8) (by decide) (dl d) rfl rfl
  have lF : HF.loadN ⟨H.next + 2, 0, none⟩ 0 8 = some (dl d) := by rw [hHF]; exact (R.put (dl d)).loadA rfl
  have XF : Xt H HF := by rw [hHF]; exact X.put (by omega) _
  refine ⟨_, HF, T_all hm lightX29 XF.base XF.next (fun _ => XF.wf) ?_, rfl, XF⟩
  have hxC := X.rws hx
  have hT := rreadK wC d hxC r.1 hl
  have laC : HC.loadN ⟨H.next, 0, none⟩ 0 8 = some (dl d) := V.loadA rfl
  have p0 : HC.load ⟨H.next + 1, 0, none⟩ = some (iv r.1) := P.load 0
  have l4 : HC.load ⟨H.next, 4, none⟩ = some d.xr := V.load 4
  have l0 : HC.load ⟨H.next, 0, none⟩ = some (iv d.mr) := V.load 0
  obtain ⟨ai, ci', hxi⟩ := hx.len
  rw [List.length_map] at hxi
  rw [hxi] at l4
  have hN1 : H.new 44 8 (dl d) = HA := hHA.symm
  have hN2 : HA.new 78 3 (row3 r) = HB := hHB.symm
  have hN3 : HB.new 44 8 [.int .i64 0, .int .i64 0, .int .i64 0, .slice none 0 0, .slice none 0 0, .slice none 0 0, .slice none 0 0, .slice none 0 0] = HC := hHC.symm
  obtain ⟨d0, hd0⟩ : ∃ d0, d0 = dl d := ⟨_, rfl⟩
  have hda : dA d = .agg d0.toArray := by rw [hd0]
  have hd8 : d0.length = 8 := by rw [hd0]; rfl
  obtain ⟨r0, hr0⟩ : ∃ r0, r0 = row3 r := ⟨_, rfl⟩
  have hr3 : r0.length = 3 := by rw [hr0]; rfl
  rw [← hr0] at hN2
  rw [hda] at hT ⊢
  rw [← hd0] at hN1 laC sF lF
  rw [← hr0]
  show wpA Try.prog L29 _ _ (rdy H)
  have fin : ∃ bs, HF.kills bs = HF := ⟨[], rfl⟩
  by_cases h0 : 0 ≤ rIdx r.1 rs
  · have e1 : noteC rs r d.mr = 61 := by simp [noteC, h0]
    rw [e1]
    simp [L29, hN1, hN2, nA, hN3, nB, hd8, hr3, laC, p0]
    refine goT_of hT ?_
    simp [h0, laC, sF, lF]
    exact fin
  · have hf : (rs.length : Int) = d.mr := by
      rcases hno with h | h
      · exact absurd h h0
      · exact h
    have e1 : noteC rs r d.mr = 200 := by simp [noteC, h0, hf]
    have hb : ((rs.length : Int) == d.mr) = true := by simpa using hf
    rw [e1]
    simp [L29, hN1, hN2, nA, hN3, nB, hd8, hr3, laC, p0]
    refine goT_of hT ?_
    simp [h0, l4, l0, hb, laC, sF, lF]
    exact fin
end Go.Proofs.Ytjpdoflmjokplaa
namespace Go.Proofs.Ytjpdoflmjokplaa
open Go.Ot Go.RowKit
set_option linter.unusedSimpArgs false
set_option linter.unusedVariables false
/-- One append to a row of one's own. -/
theorem app_step {H : Heap} (hw : H.WF) {ety sz n m bytes : Nat} {cells xs : List Value} {x y : Value} (own : Own H ety sz n cells x) (hs : srcCells H sz y = some (m, xs)) (hxs : xs.length = m * sz) (hx : (blkOf x).isSome = true) (hb : (n + m) * bytes ≤ 140737488355328) :
    ∃ y1 H2, sAppend H ety sz bytes x y = some (y1, H2) ∧ Own H2 ety sz (n + m) (cells ++ xs) y1 ∧ H2.WF ∧ H2.base = H.base ∧ H2.next = H.next + (if m = 0 then 0 else 1) ∧ y1 = (if m = 0 then x else .slice (some ⟨H.next, 0, none⟩) (n + m) 0) ∧ (∀ b, blkOf x ≠ some b → b < H.next → H2.blk b = H.blk b) ∧ (m ≠ 0 → H2.blk H.next = some ⟨ety, sz, cells ++ xs⟩) := by
  have hnB := hw.next_ge
  by_cases hm : m = 0
  · subst hm
    have hc : xs = [] := List.length_eq_zero_iff.1 (by simpa using hxs)
    subst hc
    have hxs' : ∃ a, x = .slice (some a) n 0 := by
      obtain ⟨a, rfl⟩ := own.len
      cases a with
      | none => cases hx
      | some a => exact ⟨a, rfl⟩
    obtain ⟨a, rfl⟩ := hxs'
    exact ⟨_, H, append_none hs (.inl rfl), by simpa using own, hw, rfl, by simp, by simp, fun b _ _ => rfl, fun h => absurd rfl h⟩
  · refine ⟨_, _, append_any own hs hm hb, ?_, WF_new (WF_drop hw _) _ _ _, by simp, by simp [hm], by simp [hm], fun b hb1 hb2 => ?_, fun _ => by simp⟩
    · exact Own.mk (by rw [List.length_append, own.1, hxs, Nat.add_mul]) (by simpa using hnB) (by simp)
    · have m1 : b ≠ H.next := by omega
      simp [m1, blk_drop, hb1]
/-- A row of reads made of another one and one more: where it stands, and what else there is. -/
structure Gr (H G : Heap) (k : Nat) (cells : List Value) : Prop where
  wf : G.WF
  base : G.base = H.base
  next : G.next = H.next + k + 1
  own : G.blk (H.next + k) = some ⟨78, 3, cells⟩
  keep : ∀ b, b < H.next → G.blk b = H.blk b
def grK (n : Nat) : Nat := if n = 0 then 2 else 3
section
variable {H : Heap} (hw : H.WF) {n : Nat} {cells row : List Value} {x : Value} (hsrc : ∀ H' : Heap, H'.base = H.base → (∀ b, b < H.next → H'.blk b = H.blk b) → srcCells H' 3 x = some (n, cells)) (hcl : cells.length = n * 3) (hr : row.length = 3) (hb : (n + 1) * 24 ≤ 140737488355328)
include hw hsrc hcl hr hb
theorem gr1 : ∃ y1 H2 H3, sAppend (H.new 78 3 []) 78 3 24 (.slice (some ⟨H.next, 0, none⟩) 0 0) x = some (y1, H2) ∧ On H H2 ∧ sAppend (H2.new 78 3 row) 78 3 24 y1 (.slice (some ⟨H2.next, 0, none⟩) 1 0) = some (.slice (some ⟨H.next + grK n, 0, none⟩) (n + 1) 0, H3) ∧ Gr H H3 (grK n) (cells ++ row) := by
  have hnB := hw.next_ge
  obtain ⟨H1, hH1⟩ : ∃ H1, H1 = H.new 78 3 [] := ⟨_, rfl⟩
  have w1 : H1.WF := by rw [hH1]; exact WF_new hw _ _ _
  have n1 : H1.next = H.next + 1 := by rw [hH1]; rfl
  have b1 : H1.base = H.base := by rw [hH1]; rfl
  have k1 : ∀ b, b < H.next → H1.blk b = H.blk b := fun b hb => by rw [hH1]; simp [show b ≠ H.next by omega]
  have o1 : Own H1 78 3 0 [] (.slice (some ⟨H.next, 0, none⟩) 0 0) := Own.mk (by simp) (by rw [B_eq b1]; exact hnB) (by rw [hH1]; simp)
  have s1 := hsrc H1 b1 k1
  obtain ⟨y1, H2, a1, o2, w2, b2, n2, hy1, k2, _⟩ := app_step (bytes := 24) w1 o1 s1 hcl rfl (by rw [Nat.zero_add]; omega)
  rw [Nat.zero_add, List.nil_append] at o2
  have hyb : ∀ b, blkOf y1 = some b → H.next ≤ b ∧ b < H2.next := by
    intro b hb
    refine ⟨?_, o2.lt w2 hb⟩
    rw [hy1] at hb
    by_cases h0 : n = 0
    · simp [h0] at hb; omega
    · simp [h0] at hb; omega
  have hys : (blkOf y1).isSome = true := by
    rw [hy1]
    by_cases h0 : n = 0 <;> simp [h0]
  have hnB2 := w2.next_ge
  obtain ⟨HR, hHR⟩ : ∃ HR, HR = H2.new 78 3 row := ⟨_, rfl⟩
  have wR : HR.WF := by rw [hHR]; exact WF_new w2 _ _ _
  have nR : HR.next = H2.next + 1 := by rw [hHR]; rfl
  have bR : HR.base = H2.base := by rw [hHR]; rfl
  have oR : Own HR 78 3 n cells y1 := by rw [hHR]; exact Own.new w2 o2 _ _ _
  have sR : srcCells HR 3 (.slice (some ⟨H2.next, 0, none⟩) 1 0) = some (1, row) := by
    rw [hHR, src_at (ety := 78) (cs := row) (by simpa using hnB2) (by simp) (by simp [hr])]
    simp [← hr]
  obtain ⟨y2, H3, a2, o3, w3, b3, n3, hy2, k3, own3⟩ := app_step (bytes := 24) wR oR sR (by simp [hr]) hys hb
  simp at hy2 n3
  have hk : HR.next = H.next + grK n := by
    rw [nR, n2, n1]
    unfold grK
    by_cases h0 : n = 0 <;> simp [h0]
  have keep2 : ∀ b, b < H.next → H2.blk b = H.blk b := fun b hb => by
    rw [k2 b (by simp; omega) (by omega), k1 b hb]
  refine ⟨y1, H2, H3, ?_, ⟨w2, b2.trans b1, by rw [n2]; omega, keep2⟩, ?_, ⟨w3, b3.trans (bR.trans (b2.trans b1)), by rw [n3, hk], ?_, ?_⟩⟩
  · rw [← hH1]; exact a1
  · rw [← hHR, a2, hy2, hk]
  · rw [← hk]; exact own3 (by decide)
  · intro b hb
    rw [k3 b (fun e => by have := hyb b e; omega) (by omega), hHR]
    simp [show b ≠ H2.next by omega, keep2 b hb]
theorem gr2 : ∃ y1 H3 H4, sAppend ((H.new 78 3 []).new 78 3 row) 78 3 24 (.slice (some ⟨H.next, 0, none⟩) 0 0) x = some (y1, H3) ∧ sAppend H3 78 3 24 y1 (.slice (some ⟨H.next + 1, 0, none⟩) 1 0) = some (.slice (some ⟨H.next + grK n, 0, none⟩) (n + 1) 0, H4) ∧ Gr H H4 (grK n) (cells ++ row) := by
  have hnB := hw.next_ge
  obtain ⟨H1, hH1⟩ : ∃ H1, H1 = (H.new 78 3 []).new 78 3 row := ⟨_, rfl⟩
  have w1 : H1.WF := by rw [hH1]; exact WF_new (WF_new hw _ _ _) _ _ _
  have n1 : H1.next = H.next + 2 := by rw [hH1]; rfl
  have b1 : H1.base = H.base := by rw [hH1]; rfl
  have k1 : ∀ b, b < H.next → H1.blk b = H.blk b := fun b hb => by rw [hH1]; simp [show b ≠ H.next by omega, show b ≠ H.next + 1 by omega]
  have o1 : Own H1 78 3 0 [] (.slice (some ⟨H.next, 0, none⟩) 0 0) := Own.mk (by simp) (by rw [B_eq b1]; exact hnB) (by rw [hH1]; simp)
  have s1 := hsrc H1 b1 k1
  obtain ⟨y1, H2, a1, o2, w2, b2, n2, hy1, k2, _⟩ := app_step (bytes := 24) w1 o1 s1 hcl rfl (by rw [Nat.zero_add]; omega)
  rw [Nat.zero_add, List.nil_append] at o2
  have hyb : ∀ b, blkOf y1 = some b → b = H.next ∨ b = H.next + 2 := by
    intro b hb
    rw [hy1] at hb
    by_cases h0 : n = 0
    · simp [h0] at hb; omega
    · simp [h0] at hb; omega
  have hys : (blkOf y1).isSome = true := by
    rw [hy1]
    by_cases h0 : n = 0 <;> simp [h0]
  have sR : srcCells H2 3 (.slice (some ⟨H.next + 1, 0, none⟩) 1 0) = some (1, row) := by
    rw [src_at (ety := 78) (cs := row) (by rw [B_eq (b2.trans b1)]; omega) (by rw [k2 _ (by simp) (by omega), hH1]; simp) (by simp [hr])]
    simp [← hr]
  obtain ⟨y2, H3, a2, o3, w3, b3, n3, hy2, k3, own3⟩ := app_step (bytes := 24) w2 o2 sR (by simp [hr]) hys hb
  simp at hy2 n3
  have hk : H2.next = H.next + grK n := by
    rw [n2, n1]
    unfold grK
    by_cases h0 : n = 0 <;> simp [h0]
  refine ⟨y1, H2, H3, ?_, ?_, ⟨w3, b3.trans (b2.trans b1), by rw [n3, hk], by rw [← hk]; exact own3 (by decide), fun b hb => ?_⟩⟩
  · rw [← hH1]; exact a1
  · rw [a2, hy2, hk]
  · rw [k3 b (fun e => by have := hyb b e; omega) (by omega), k2 b (by simp; omega) (by omega), k1 b hb]
theorem gr3 : ∃ y1 H3 H4, sAppend ((H.new 78 3 row).new 78 3 []) 78 3 24 (.slice (some ⟨H.next + 1, 0, none⟩) 0 0) x = some (y1, H3) ∧ sAppend H3 78 3 24 y1 (.slice (some ⟨H.next, 0, none⟩) 1 0) = some (.slice (some ⟨H.next + grK n, 0, none⟩) (n + 1) 0, H4) ∧ Gr H H4 (grK n) (cells ++ row) := by
  have hnB := hw.next_ge
  obtain ⟨H1, hH1⟩ : ∃ H1, H1 = (H.new 78 3 row).new 78 3 [] := ⟨_, rfl⟩
  have w1 : H1.WF := by rw [hH1]; exact WF_new (WF_new hw _ _ _) _ _ _
  have n1 : H1.next = H.next + 2 := by rw [hH1]; rfl
  have b1 : H1.base = H.base := by rw [hH1]; rfl
  have k1 : ∀ b, b < H.next → H1.blk b = H.blk b := fun b hb => by rw [hH1]; simp [show b ≠ H.next by omega, show b ≠ H.next + 1 by omega]
  have o1 : Own H1 78 3 0 [] (.slice (some ⟨H.next + 1, 0, none⟩) 0 0) := Own.mk (by simp) (by rw [B_eq b1]; omega) (by rw [hH1]; simp)
  have s1 := hsrc H1 b1 k1
  obtain ⟨y1, H2, a1, o2, w2, b2, n2, hy1, k2, _⟩ := app_step (bytes := 24) w1 o1 s1 hcl rfl (by rw [Nat.zero_add]; omega)
  rw [Nat.zero_add, List.nil_append] at o2
  have hyb : ∀ b, blkOf y1 = some b → b = H.next + 1 ∨ b = H.next + 2 := by
    intro b hb
    rw [hy1] at hb
    by_cases h0 : n = 0
    · simp [h0] at hb; omega
    · simp [h0] at hb; omega
  have hys : (blkOf y1).isSome = true := by
    rw [hy1]
    by_cases h0 : n = 0 <;> simp [h0]
  have sR : srcCells H2 3 (.slice (some ⟨H.next, 0, none⟩) 1 0) = some (1, row) := by
    rw [src_at (ety := 78) (cs := row) (by rw [B_eq (b2.trans b1)]; omega) (by rw [k2 _ (by simp) (by omega), hH1]; simp) (by simp [hr])]
    simp [← hr]
  obtain ⟨y2, H3, a2, o3, w3, b3, n3, hy2, k3, own3⟩ := app_step (bytes := 24) w2 o2 sR (by simp [hr]) hys hb
  simp at hy2 n3
  have hk : H2.next = H.next + grK n := by
    rw [n2, n1]
    unfold grK
    by_cases h0 : n = 0 <;> simp [h0]
  refine ⟨y1, H2, H3, ?_, ?_, ⟨w3, b3.trans (b2.trans b1), by rw [n3, hk], by rw [← hk]; exact own3 (by decide), fun b hb => ?_⟩⟩
  · rw [← hH1]; exact a1
  · rw [a2, hy2, hk]
  · rw [k3 b (fun e => by have := hyb b e; omega) (by omega), k2 b (by simp; omega) (by omega), k1 b hb]
end
/-- The heap behind Note, as it is told: of the rows made on the way none stands. -/
def noteH (H HC : Heap) (k : Nat) (cells l : List Value) : Heap :=
  ((({ base := HC.base, next := HC.next + k, blk := HC.blk } : Heap).new 78 3 cells).put H.next l).put (H.next + 2) l
theorem Gr.fin {H HC G : Heap} {k : Nat} {cells : List Value} {d : DL} (hw : HC.WF) (hn : HC.next = H.next + 3) (g : Gr HC G k cells) (V : Vr HC H.next 44 8 (dl d)) (R : Vr HC (H.next + 2) 44 8 z8) {n : Nat} {y : Value} (hy : y = .slice (some ⟨HC.next + k, 0, none⟩) n 0) (d2 : DL) (hd2 : d2 = { d with xr := y }) :
    ∃ G3 G4, sStore G 1 (.pointer (some ⟨H.next, 4, none⟩)) y = some G3 ∧ G3.loadN ⟨H.next, 0, none⟩ 0 8 = some (dl d2) ∧ sStore G3 8 (ptr (H.next + 2)) (.agg (dl d2).toArray) = some G4 ∧ G4.loadN ⟨H.next + 2, 0, none⟩ 0 8 = some (dl d2) ∧ ∃ bs, G4.kills bs = noteH H HC k cells (dl d2) := by
  have V1 := V.keep g.base (g.keep _ (by omega))
  have R1 := R.keep g.base (g.keep _ (by omega))
  have e2 : (dl d).set 4 y = dl d2 := by rw [hd2]; rfl
  have st := V1.store 4 y (by simp [dl])
  rw [e2] at st
  have V2 : Vr (G.put H.next (dl d2)) H.next 44 8 (dl d2) := V1.put (dl d2)
  have R2 : Vr (G.put H.next (dl d2)) (H.next + 2) 44 8 z8 := R1.beside (by omega) (dl d2)
  have sa := R2.storeA (m := 8) (by decide) (dl d2) rfl rfl
  have R3 := R2.put (dl d2)
  refine ⟨_, _, ?_, V2.loadA rfl, sa, R3.loadA rfl, (List.range k).map (HC.next + ·), ?_⟩
  · rw [hy] at st ⊢; rw [sStore_slice]; exact st
  · refine Heap.eq_of ?_ ?_ (fun b => ?_)
    · rw [kills_base]; exact g.base
    · rw [kills_next]; simp [noteH, g.next]
    · rw [kills_blk]
      by_cases h1 : b ∈ (List.range k).map (HC.next + ·)
      · rw [if_pos h1]
        obtain ⟨i, hi, rfl⟩ := List.mem_map.1 h1
        have hi := List.mem_range.1 hi
        have m1 : HC.next + i ≠ H.next + 2 := by omega
        have m2 : HC.next + i ≠ H.next := by omega
        have m3 : i ≠ k := by omega
        have : HC.blk (HC.next + i) = none := by
          cases hb : HC.blk (HC.next + i) with
          | none => rfl
          | some v => have := hw.lt hb; omega
        simp [noteH, m1, m2, m3, this]
      · rw [if_neg h1]
        have hge : HC.next ≤ b → b < HC.next + k → False := fun h2 h3 => h1 (List.mem_map.2 ⟨b - HC.next, List.mem_range.2 (by omega), by omega⟩)
        have vb := V.bq
        have rb := R.bq
        have gv := V1.bq
        have gr := R1.bq
        by_cases h2 : b = H.next + 2
        · subst h2
          have m1 : H.next + 2 ≠ HC.next + k := by omega
          simp [noteH, m1, rb, gr]
        · by_cases h3 : b = H.next
          · subst h3
            have m1 : H.next ≠ HC.next + k := by omega
            simp [noteH, m1, vb, gv]
          · by_cases h4 : b = HC.next + k
            · subst h4
              simp [noteH, h2, h3, g.own]
            · by_cases h5 : b < HC.next
              · simp [noteH, h2, h3, h4, g.keep b h5]
              · have h6 : ¬ b < HC.next + k := fun h => hge (by omega) h
                have e1 : HC.blk b = none := by
                  cases hb : HC.blk b with
                  | none => rfl
                  | some v => have := hw.lt hb; omega
                have e3 : G.blk b = none := by
                  cases hb : G.blk b with
                  | none => rfl
                  | some v => have := g.wf.lt hb; have := g.next; omega
                simp [noteH, h2, h3, h4, e1, e3]
end Go.Proofs.Ytjpdoflmjokplaa
namespace Go.Proofs.Ytjpdoflmjokplaa
open Go.Ot Go.RowKit
set_option linter.unusedSimpArgs false
set_option linter.unusedVariables false
theorem refNote_T {H : Heap} (hw : H.WF) (d : DL) {rs : List R3} (hx : Rws H 3 d.xr (rs.map row3)) (r : R3) (hl : rs.length ≤ 1000) :
    ∃ v H', T Try.prog 29 [dA d, .agg (row3 r).toArray] H v H' ∧ ∃ d2, v = .tuple #[dA d2, iv (noteC rs r d.mr)] ∧ Xt H H' ∧ Rws H' 3 d2.xr ((noteL rs r d.mr).map row3) ∧ d2 = { d with xr := d2.xr } ∧ ∀ b, blkOf d2.xr = some b → blkOf d.xr = some b ∨ (H.next ≤ b ∧ b < H'.next) := by
  by_cases hno : 0 ≤ rIdx r.1 rs ∨ (rs.length : Int) = d.mr
  · obtain ⟨v, H', hT, rfl, X⟩ := refNote_no hw d hx r hl hno
    refine ⟨_, H', hT, d, rfl, X, ?_, rfl, fun b hb => .inl hb⟩
    have : noteL rs r d.mr = rs := by
      unfold noteL
      rcases hno with h | h
      · rw [if_pos h]
      · by_cases h0 : 0 ≤ rIdx r.1 rs
        · rw [if_pos h0]
        · rw [if_neg h0, if_pos h]
    rw [this]
    exact X.rws hx
  have hn0 : ¬ 0 ≤ rIdx r.1 rs := fun h => hno (.inl h)
  have hnf : ¬ (rs.length : Int) = d.mr := fun h => hno (.inr h)
  have e1 : noteC rs r d.mr = 0 := by simp [noteC, hn0, hnf]
  have e2 : noteL rs r d.mr = rs ++ [r] := by simp [noteL, hn0, hnf]
  rw [e1, e2]
  have hnB := hw.next_ge
  obtain ⟨HA, hHA⟩ : ∃ HA, HA = H.new 44 8 (dl d) := ⟨_, rfl⟩
  obtain ⟨HB, hHB⟩ : ∃ HB, HB = HA.new 78 3 (row3 r) := ⟨_, rfl⟩
  obtain ⟨HC, hHC⟩ : ∃ HC, HC = HB.new 44 8 z8 := ⟨_, rfl⟩
  have wA : HA.WF := by rw [hHA]; exact WF_new hw _ _ _
  have wB : HB.WF := by rw [hHB]; exact WF_new wA _ _ _
  have wC : HC.WF := by rw [hHC]; exact WF_new wB _ _ _
  have nA : HA.next = H.next + 1 := by rw [hHA]; simp
  have nB : HB.next = H.next + 2 := by rw [hHB]; simp [nA]
  have nC : HC.next = H.next + 3 := by rw [hHC]; simp [nB]
  have X : Xt H HC := by rw [hHC, hHB, hHA]; exact (((Xt.refl hw).new _ _ _).new _ _ _).new _ _ _
  have V : Vr HC H.next 44 8 (dl d) := by
    rw [hHC, hHB, hHA]
    exact ((Vr.mk' hw 44 8 (dl d)).new (WF_new hw _ _ _) _ _ _).new (by rw [← hHA, ← hHB]; exact wB) _ _ _
  have R : Vr HC (H.next + 2) 44 8 z8 := by rw [hHC, ← nB]; exact Vr.mk' wB _ _ _
  have P : Vr HC (H.next + 1) 78 3 (row3 r) := by rw [hHC, hHB, ← nA]; exact (Vr.mk' wA 78 3 (row3 r)).new (by rw [← hHB]; exact wB) _ _ _
  have hxC := X.rws hx
  have hT := rreadK wC d hxC r.1 hl
  have laC : HC.loadN ⟨H.next, 0, none⟩ 0 8 = some (dl d) := V.loadA rfl
  have p0 : HC.load ⟨H.next + 1, 0, none⟩ = some (iv r.1) := P.load 0
  have l4 : HC.load ⟨H.next, 4, none⟩ = some d.xr := V.load 4
  have l0 : HC.load ⟨H.next, 0, none⟩ = some (iv d.mr) := V.load 0
  have hsrc : ∀ H' : Heap, H'.base = HC.base → (∀ b, b < HC.next → H'.blk b = HC.blk b) → srcCells H' 3 d.xr = some (rs.length, c3 rs) := fun H' hb hk => by
    have := rws_src (by intro r hr; obtain ⟨q, _, rfl⟩ := List.mem_map.1 hr; rfl) (hxC.keep wC hb hk)
    rw [List.length_map] at this
    exact this
  obtain ⟨ai, ci', hxi⟩ := hx.len
  rw [List.length_map] at hxi
  have hr3 : (row3 r).length = 3 := rfl
  have hb24 : (rs.length + 1) * 24 ≤ 140737488355328 := by omega
  obtain ⟨y1, A2, A3, a1, onA, a2, gA⟩ := gr1 wC hsrc (c3_len rs) hr3 hb24
  obtain ⟨y2, B2, B3, b1, b2, gB⟩ := gr2 wC hsrc (c3_len rs) hr3 hb24
  obtain ⟨y3, C2, C3, c1, c2', gC⟩ := gr3 wC hsrc (c3_len rs) hr3 hb24
  obtain ⟨k, hk⟩ : ∃ k, k = grK rs.length := ⟨_, rfl⟩
  rw [← hk] at a2 b2 c2' gA gB gC
  obtain ⟨yy, hyy⟩ : ∃ yy : Value, yy = .slice (some ⟨HC.next + k, 0, none⟩) (rs.length + 1) 0 := ⟨_, rfl⟩
  rw [← hyy] at a2 b2 c2'
  obtain ⟨d2, hd2⟩ : ∃ d2 : DL, d2 = { d with xr := yy } := ⟨_, rfl⟩
  obtain ⟨A4, A5, sA, lA, tA, mA, kA⟩ := gA.fin wC nC V R hyy d2 hd2
  obtain ⟨B4, B5, sB, lB, tB, mB, kB⟩ := gB.fin wC nC V R hyy d2 hd2
  obtain ⟨C4, C5, sC, lC, tC, mC, kC⟩ := gC.fin wC nC V R hyy d2 hd2
  obtain ⟨HF, hHF⟩ : ∃ HF, HF = noteH H HC k (c3 rs ++ row3 r) (dl d2) := ⟨_, rfl⟩
  rw [← hHF] at kA kB kC
  have wF : HF.WF := by
    rw [hHF]
    refine WF_put (WF_put (WF_new ?_ _ _ _) _ _) _ _
    exact ⟨by show HC.B ≤ HC.next + k; have := wC.next_ge; omega, fun b kk hkk => ⟨(wC.live b kk hkk).1, by have := (wC.live b kk hkk).2; show b < HC.next + k; omega⟩⟩
  have XF : Xt H HF := by
    refine ⟨by rw [hHF]; exact X.base, by rw [hHF]; simp [noteH]; omega, hw, wF, fun b hb => ?_⟩
    have m1 : b ≠ H.next + 2 := by omega
    have m2 : b ≠ H.next := by omega
    have m3 : b ≠ HC.next + k := by omega
    rw [hHF]
    simp [noteH, m1, m2, m3]
    exact X.old b hb
  have ownF : Own HF 78 3 (rs.length + 1) (c3 rs ++ row3 r) yy := by
    rw [hyy]
    have m1 : HC.next + k ≠ H.next + 2 := by omega
    have m2 : HC.next + k ≠ H.next := by omega
    refine Own.mk (by rw [List.length_append, c3_len]; simp [row3]; omega) (by rw [B_eq (XF.base.trans X.base.symm)]; have := wC.next_ge; omega) ?_
    rw [hHF]
    simp [noteH, m1, m2]
  refine ⟨_, HF, T_all hm lightX29 XF.base XF.next (fun _ => XF.wf) ?_, d2, rfl, XF, ?_, by rw [hd2], ?_⟩
  · have hN1 : H.new 44 8 (dl d) = HA := hHA.symm
    have hN2 : HA.new 78 3 (row3 r) = HB := hHB.symm
    have hN3 : HB.new 44 8 [.int .i64 0, .int .i64 0, .int .i64 0, .slice none 0 0, .slice none 0 0, .slice none 0 0, .slice none 0 0, .slice none 0 0] = HC := hHC.symm
    obtain ⟨d0, hd0⟩ : ∃ d0, d0 = dl d := ⟨_, rfl⟩
    have hda : dA d = .agg d0.toArray := by rw [hd0]
    have hd8 : d0.length = 8 := by rw [hd0]; rfl
    obtain ⟨ds, hds⟩ : ∃ ds, ds = dl d2 := ⟨_, rfl⟩
    have hda2 : dA d2 = .agg ds.toArray := by rw [hds]
    have hd28 : ds.length = 8 := by rw [hds]; rfl
    have q0 : HC.loadN ⟨H.next + 1, 0, none⟩ 0 3 = some (row3 r) := P.loadA rfl
    have q1 : (HC.new 78 3 []).loadN ⟨H.next + 1, 0, none⟩ 0 3 = some (row3 r) := (P.new wC _ _ _).loadA rfl
    have q2 : A2.loadN ⟨H.next + 1, 0, none⟩ 0 3 = some (row3 r) := (P.keep onA.base (onA.keep _ (by omega))).loadA rfl
    have m1 : (HC.new 78 3 []).load ⟨H.next, 4, none⟩ = some d.xr := load_newN wC l4 _ _ _
    have m2 : ((HC.new 78 3 []).new 78 3 (row3 r)).load ⟨H.next, 4, none⟩ = some d.xr := load_newN (WF_new wC _ _ _) m1 _ _ _
    have m3 : (HC.new 78 3 (row3 r)).load ⟨H.next, 4, none⟩ = some d.xr := load_newN wC l4 _ _ _
    have m4 : ((HC.new 78 3 (row3 r)).new 78 3 []).load ⟨H.next, 4, none⟩ = some d.xr := load_newN (WF_new wC _ _ _) m3 _ _ _
    have hz0 : zerosA [iv 0, iv 0, iv 0] 0 = [] := rfl
    have hzf : zerosA [iv 0, iv 0, iv 0] 3 = [iv 0, iv 0, iv 0] := rfl
    obtain ⟨r0, hr0⟩ : ∃ r0, r0 = row3 r := ⟨_, rfl⟩
    rw [← hr0] at hr3 hN2 q0 q1 q2 m2 m3 m4 a2 b1 c1
    rw [hda, hda2, ← hr0]
    rw [hda] at hT
    rw [← hd0] at hN1 laC
    rw [← hds] at lA mA lB mB lC mC tA tB tC
    have hnt : notTup yy = true := by rw [hyy]; rfl
    have hcx : yy.cells = #[yy] := by rw [hyy]; rfl
    have hf1 : ((rs.length : Int) == d.mr) = false := by simpa using hnf
    obtain ⟨i, hi⟩ : ∃ i, i = rIdx r.1 rs := ⟨_, rfl⟩
    rw [← hi] at hT hn0
    have hn1 : i < 0 := by omega
    rw [hxi] at l4 m1 m2 m3 m4 a1 b1 c1
    show wpA Try.prog L29 _ _ (rdy H)
    simp [L29, hN1, hN2, nA, hN3, nB, hd8, hr3, laC, p0]
    refine goT_of hT ?_
    simp [hn0, l4, l0, hf1, hz0, hzf, m1, m2, m3, m4, q0, q1, q2, hr3, a1, a2, b1, b2, c1, c2', hnt, hcx, sA, lA, tA, mA, sB, lB, tB, mB, sC, lC, tC, mC]
    exact ⟨kA, kB, kC⟩
  · rw [hd2, show List.map row3 (rs ++ [r]) = (rs ++ [r]).map row3 from rfl]
    refine Own.rws (ety := 78) (by intro r hr; obtain ⟨q, _, rfl⟩ := List.mem_map.1 hr; rfl) ?_
    have q1 : ((rs ++ [r]).map row3).flatten = c3 rs ++ row3 r := by simp [c3]
    have h1 : ((rs ++ [r]).map row3).length = rs.length + 1 := by simp
    rw [q1, h1]
    exact ownF
  · rw [hd2]
    intro b hb
    rw [hyy] at hb
    have hb : b = HC.next + k := (Option.some.inj hb).symm
    subst hb
    refine .inr ⟨by omega, ?_⟩
    rw [hHF]
    simp [noteH]
end Go.Proofs.Ytjpdoflmjokplaa
