/-
  Seals: what the functions answer.
-/
import Derived.Test.YtpcgganldmmpoaaSeatC
namespace Go.Proofs.Ytpcgganldmmpoaa
open Go.Ot
set_option linter.unusedSimpArgs false
set_option linter.unusedVariables false
theorem load_keep {H H' : Heap} (hw : H.WF) (hb : H'.base = H.base) (hk : ∀ b, b < H.next → H'.blk b = H.blk b) {b off : Nat} {v : Value} (h : H.load ⟨b, off, none⟩ = some v) : H'.load ⟨b, off, none⟩ = some v := by
  by_cases hB : b < H.B
  · rw [load_ext hb hB]; exact h
  · have hB' : ¬ b < H'.B := by rw [B_eq hb]; exact hB
    cases hkb : H.blk b with
    | none => simp [Heap.load, hB, hkb] at h
    | some k =>
      rw [load_at hB hkb] at h
      rw [load_at hB' ((hk b (hw.lt hkb)).trans hkb)]
      exact h
theorem Bs.keep {H H' : Heap} (hw : H.WF) (hb : H'.base = H.base) (hk : ∀ b, b < H.next → H'.blk b = H.blk b) {x : Value} {l : List Nat} (h : Bs H x l) : Bs H' x l := by
  rcases h with h | ⟨b, off, c, rfl, h⟩
  · exact .inl h
  · exact .inr ⟨b, off, c, rfl, fun i hi => load_keep hw hb hk (h i hi)⟩
theorem same_all {H H1 : Heap} (h : Same H H1 []) : ∀ b, b < H.next → H1.blk b = H.blk b := fun b hb => h b hb (by simp)
/-- New rows: nothing old is turned. -/
theorem OG.olds {H H' : Heap} {l : List Nat} {y : Value} (h : OG H H' (.slice none 0 0) l y) : ∀ b, b < H.next → H'.blk b = H.blk b := fun b hb => h.same b hb (by simp)
/-- Something else is made beside: it stands as it stood. -/
theorem OG.beside {H H1 H2 : Heap} {x y : Value} {l : List Nat} (a : OG H H1 x l y) (hb : H2.base = H1.base) (hn : H1.next ≤ H2.next) (hw : H2.WF) (hk : ∀ b, b < H1.next → H2.blk b = H1.blk b) : OG H H2 x l y :=
  ⟨hb.trans a.base, Nat.le_trans a.next hn, hw, a.own.keep (B_eq hb) (fun b hx => hk b (a.own.lt a.wf hx)), fun b hlt hx => (hk b (Nat.lt_of_lt_of_le hlt a.next)).trans (a.same b hlt hx), a.old⟩
def mk4 : List Nat := [111, 117, 116, 114]
theorem mark_T {H : Heap} (hw : H.WF) : ∃ v H', T Try.prog 43 [] H v H' ∧ v = .agg (bc mk4).toArray ∧ Same H H' [] := by
  refine T_by hm light43 ?_
  have hnB := hw.next_ge
  simp [L43, sStore_agg, Heap.storeN, Heap.loadN, add_own, Heap.store, Heap.load, hnB, bc, mk4]
  intro b hb _
  have m1 : b ≠ H.next := by omega
  simp [m1]
def sealB (body : List Nat) : List Nat := mk4 ++ low body.length 4 ++ low (fnv body) 8 ++ body
theorem seal_big {H : Heap} {x : Value} {l : List Nat} (h : Bs H x l) (hl : 1048576 < l.length) : T Try.prog 14 [x] H (.tuple #[.slice none 0 0, .int .i64 23]) H := by
  refine T_eq hm light14 ?_
  obtain ⟨xa, xc, rfl⟩ := h.len
  have e : (1048576 : Int) < l.length := by omega
  simp [L14, e]
theorem seal_T {H : Heap} (hw : H.WF) {x : Value} {l : List Nat} (h : Bs H x l) (hb : ∀ b ∈ l, b < 256) (hl : l.length ≤ 1048576) :
    ∃ v H', T Try.prog 14 [x] H v H' ∧ ∃ y, v = .tuple #[y, .int .i64 0] ∧ OG H H' (.slice none 0 0) (sealB l) y := by
  refine T_by hm light14 ?_
  obtain ⟨xa, xc, hxl⟩ := h.len
  have e : ¬ (1048576 : Int) < l.length := by omega
  have e1 : IntKind.u64.wrap (l.length : Int) = (l.length : Int) := wu64 _ (by omega)
  obtain ⟨v1, H1, T1, rfl, S1⟩ := mark_T hw
  have w1 := T1.grow.wf hw
  have hnB := w1.next_ge
  have n1 := T1.grow.next
  obtain ⟨HM, hHM⟩ : ∃ HM, HM = H1.new 68 4 [.int .u8 111, .int .u8 117, .int .u8 116, .int .u8 114] := ⟨_, rfl⟩
  have wM : HM.WF := by rw [hHM]; exact WF_new w1 _ _ _
  have nM : HM.next = H1.next + 1 := by rw [hHM]; rfl
  have bM : HM.base = H.base := by rw [hHM]; exact T1.1
  have src : srcCells HM 1 (.slice (some ⟨H1.next, 0, none⟩) 4 1) = some (4, bc mk4) := by
    rw [srcCells_slice, loadN_at (k := ⟨68, 4, bc mk4⟩) (by rw [hHM]; exact hnB) (by rw [hHM]; simp [bc, mk4]) (by simp [bc, mk4])]
    simp [bc, mk4]
  have hap := append_nil (ety := 5) (bytes := 1) src (by omega) (by omega)
  have a2 : OG H (HM.new 5 1 (bc mk4)) (.slice none 0 0) mk4 (sl HM.next 4) := by
    refine ⟨bM, by simp; omega, WF_new wM _ _ _, Own.mk (by simp [bc, mk4]) (by simpa using wM.next_ge) (by simp), ?_, ?_⟩
    · intro b hb _
      have m1 : b ≠ H1.next := by omega
      have m2 : b ≠ HM.next := by omega
      simp only [blk_new, m2, if_false]
      rw [hHM]
      simp [m1, S1 b hb (by simp)]
    · intro b hb; simp at hb; omega
  obtain ⟨HN, hHN⟩ : ∃ HN, HN = HM.new 5 1 (bc mk4) := ⟨_, rfl⟩
  rw [← hHN] at hap a2
  have h2 := h.keep hw a2.base a2.olds
  obtain ⟨v3, H3, T3, a3⟩ := put_T a2.wf a2.own l.length 4 (by simp [mk4])
  have a3' := a2.trans a3
  have h3 := h.keep hw a3'.base (OG.olds a3')
  have T4 := sum_T h3 hb (by omega)
  obtain ⟨v5, H5, T5, a5⟩ := put_T a3'.wf a3'.own (fnv l) 8 (by simp [mk4, low_len])
  have a5' := Og.trans a3' a5
  have h5 := h.keep hw a5'.base (OG.olds a5')
  obtain ⟨a, H6, hap6, a6⟩ := OG.pour a5'.wf a5'.own h5.src (by simp [mk4, low_len]; omega)
  have a6' := Og.trans a5' a6
  rw [nM] at hap T3
  rw [hHM] at hap
  rw [hxl] at T4 hap6
  rw [hxl]
  simp [L14, e, e1]
  refine goT_of T1 ?_
  simp [sStore_agg, Heap.storeN, Heap.loadN, add_own, Heap.store, Heap.load, hnB, bc, mk4, sSliceArr, bnd, Addr.add, put_put, new_put, hap, e1]
  refine goT_of T3 ?_
  simp
  refine goT_of T4 ?_
  simp
  refine goT_of T5 ?_
  simp [hap6]
  have e9 : mk4.length + ((low l.length 4).length + (low (fnv l) 8).length) + l.length = (mk4 ++ low l.length 4 ++ low (fnv l) 8).length + l.length := by simp
  rw [e9]
  exact a6'
theorem sealR_big {H : Heap} {x : Value} {l : List Nat} (h : Bs H x l) (hl : 1048576 < l.length) : T Try.prog 15 [x] H (.tuple #[.slice none 0 0, .int .i64 23]) H := by
  refine T_eq hm light15 ?_
  obtain ⟨xa, xc, rfl⟩ := h.len
  have e : (1048576 : Int) < l.length := by omega
  simp [L15, e]
theorem sealR_T {H : Heap} (hw : H.WF) {x : Value} {l : List Nat} (h : Bs H x l) (hb : ∀ b ∈ l, b < 256) (hl : l.length ≤ 1048576) :
    ∃ v H', T Try.prog 15 [x] H v H' ∧ ∃ y, v = .tuple #[y, .int .i64 0] ∧ OG H H' (.slice none 0 0) (sealB l) y := by
  refine T_by hm light15 ?_
  obtain ⟨xa, xc, hxl⟩ := h.len
  have e : ¬ (1048576 : Int) < l.length := by omega
  have e1 : IntKind.u64.wrap (l.length : Int) = (l.length : Int) := wu64 _ (by omega)
  have hnB := hw.next_ge
  obtain ⟨HN, hHN⟩ : ∃ HN, HN = H.new 5 1 [.int .u8 111, .int .u8 117, .int .u8 116, .int .u8 114] := ⟨_, rfl⟩
  have a2 : OG H HN (.slice none 0 0) mk4 (sl H.next 4) := by
    rw [hHN]
    refine ⟨rfl, by simp, WF_new hw _ _ _, Own.mk (by simp [bc, mk4]) hnB (by simp [bc, mk4]), ?_, ?_⟩
    · intro b hb _
      have m1 : b ≠ H.next := by omega
      simp [m1]
    · intro b hb; simp at hb; omega
  have hmark : sMark HN (sl H.next 4) = some (sl H.next 4) := by
    have : ¬ H.next < HN.B := by rw [hHN]; exact hnB
    simp [sMark, hHN, hnB]
  have h2 := h.keep hw a2.base a2.olds
  obtain ⟨v3, H3, T3, a3⟩ := lowR_T a2.wf l.length 4 (by omega) (by omega)
  have a3' : OG H H3 (.slice none 0 0) mk4 (sl H.next 4) := a2.beside a3.base a3.next a3.wf a3.olds
  obtain ⟨y4, H4, hap4, a4⟩ := OG.pour a3.wf a3'.own (own_bs a3.own).src (by simp [mk4, low_len])
  have a4' := Og.trans a3' a4
  have h4 := h.keep hw a4'.base (OG.olds a4')
  have T5 := sumR_T h4 hb (by omega)
  obtain ⟨v6, H6, T6, a6⟩ := lowR_T a4'.wf (fnv l) 8 (fnv_lt l) (by omega)
  have a6' : OG H H6 (.slice none 0 0) (mk4 ++ low l.length 4) (.slice y4 (mk4.length + (low l.length 4).length) 0) := OG.beside a4' a6.base a6.next a6.wf a6.olds
  obtain ⟨y7, H7, hap7, a7⟩ := OG.pour a6.wf a6'.own (own_bs a6.own).src (by simp [mk4, low_len])
  have a7' := Og.trans a6' a7
  have h7 := h.keep hw a7'.base (OG.olds a7')
  obtain ⟨y8, H8, hap8, a8⟩ := OG.pour a7'.wf a7'.own h7.src (by simp [mk4, low_len]; omega)
  have a8' := Og.trans a7' a8
  rw [hxl] at T5 hap8
  rw [hxl]
  simp [L15, e, e1, zerosA_one, List.replicate]
  rw [← hHN]
  simp [hmark]
  refine goT_of T3 ?_
  have m4 : mk4.length = 4 := rfl
  have e9 : (mk4 ++ low l.length 4 ++ low (fnv l) 8).length + l.length = 16 + l.length := by simp [mk4, low_len]
  rw [e9] at a8'
  simp only [low_len, List.length_append, m4, Nat.reduceAdd] at hap4 hap7 hap8
  simp [hap4]
  refine goT_of T5 ?_
  simp
  refine goT_of T6 ?_
  simp [hap7, hap8]
  exact a8'
end Go.Proofs.Ytpcgganldmmpoaa
