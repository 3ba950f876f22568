/-
  PackSeals answers true at all bytes.
-/
import Derived.Test.YtpcgganldmmpoaaSeatI
namespace Go.Proofs.Ytpcgganldmmpoaa
open Go.Ot Go.ChangeShapes Go.WideShapes Go.ChangeAt Go.RowKit
set_option linter.unusedSimpArgs false
set_option linter.unusedVariables false
theorem bs_of {H : Heap} {x : Value} {xs : List Int} (h : IntsB H .u8 x xs) (hw : ∀ n ∈ xs, (Lit.int .u8 n).wf = true) : ∃ l : List Nat, Bs H x l ∧ (∀ b ∈ l, b < 256) ∧ xs = l.map (fun (b : Nat) => (b : Int)) := by
  have hr : ∀ n ∈ xs, 0 ≤ n ∧ n ≤ 255 := fun n hn => bounds_u8 (hw n hn)
  have hxs : xs = (xs.map Int.toNat).map (fun (b : Nat) => (b : Int)) := by
    rw [List.map_map]
    conv => lhs; rw [← List.map_id xs]
    refine List.map_congr_left fun n hn => ?_
    simp only [Function.comp_apply, id_eq]
    have := hr n hn; omega
  refine ⟨xs.map Int.toNat, ?_, ?_, hxs⟩
  · rcases h with ⟨rfl, rfl⟩ | ⟨b, off, c, rfl, _, h⟩
    · exact .inl ⟨rfl, rfl⟩
    · refine .inr ⟨b, off, c, by simp, fun i hi => ?_⟩
      have hi' : i < xs.length := by simpa using hi
      rw [h i hi']
      have := hr xs[i] (List.getElem_mem hi')
      simp only [List.getElem_map]
      rw [Int.toNat_of_nonneg this.1]
  · intro b hb
    simp only [List.mem_map] at hb
    obtain ⟨n, hn, rfl⟩ := hb
    have := hr n hn; omega
def sealS (l : List Nat) : Nat × List Nat := if 1048576 < l.length then (23, []) else (0, sealB l)
theorem seal_U {H : Heap} (hw : H.WF) {x : Value} {l : List Nat} (h : Bs H x l) (hb : ∀ b ∈ l, b < 256) :
    ∃ v H', T Try.prog 14 [x] H v H' ∧ ∃ y, v = .tuple #[y, .int .i64 ((sealS l).1 : Int)] ∧ OG H H' (.slice none 0 0) (sealS l).2 y := by
  unfold sealS
  by_cases hl : 1048576 < l.length
  · rw [if_pos hl]; exact ⟨_, H, seal_big h hl, _, rfl, OG.same0 hw⟩
  · rw [if_neg hl]; exact seal_T hw h hb (by omega)
theorem sealR_U {H : Heap} (hw : H.WF) {x : Value} {l : List Nat} (h : Bs H x l) (hb : ∀ b ∈ l, b < 256) :
    ∃ v H', T Try.prog 15 [x] H v H' ∧ ∃ y, v = .tuple #[y, .int .i64 ((sealS l).1 : Int)] ∧ OG H H' (.slice none 0 0) (sealS l).2 y := by
  unfold sealS
  by_cases hl : 1048576 < l.length
  · rw [if_pos hl]; exact ⟨_, H, sealR_big h hl, _, rfl, OG.same0 hw⟩
  · rw [if_neg hl]; exact sealR_T hw h hb (by omega)
theorem sealS_lt {l : List Nat} (h : ∀ b ∈ l, b < 256) : ∀ b ∈ (sealS l).2, b < 256 := by
  unfold sealS; split
  · simp
  · exact sealB_lt h
theorem openB_lt {l : List Nat} (h : ∀ b ∈ l, b < 256) : ∀ b ∈ (openB l).2, b < 256 := by
  unfold openB
  split
  · simp
  · split
    · simp
    · split
      · simp
      · exact fun b hb => h b (List.mem_of_mem_drop hb)
/-- A copy in new memory. -/
theorem copied {H : Heap} (hw : H.WF) {x : Value} {l : List Nat} (h : Bs H x l) (hl : l.length ≤ 140737488355328) :
    ∃ y HA, sAppend (H.new 5 1 []) 5 1 1 (sl H.next 0) x = some (.slice y l.length 0, HA) ∧ OG H HA (.slice none 0 0) l (.slice y l.length 0) := by
  obtain ⟨H2, hH2⟩ : ∃ H2, H2 = H.new 5 1 [] := ⟨_, rfl⟩
  have w2 : H2.WF := by rw [hH2]; exact WF_new hw _ _ _
  have n2 : H2.next = H.next + 1 := by rw [hH2]; rfl
  have k2 : ∀ b, b < H.next → H2.blk b = H.blk b := fun b hb => by rw [hH2]; simp [show b ≠ H.next by omega]
  have o2 : Own H2 5 1 ([] : List Nat).length (bc []) (sl H.next 0) := Own.mk (by simp [bc]) (by rw [hH2]; exact hw.next_ge) (by rw [hH2]; simp [bc])
  have eB : H2.base = H.base := by rw [hH2]; rfl
  obtain ⟨y, HA, hap, aA⟩ := OG.pour w2 o2 ((h.keep hw eB k2).src) (by simpa using hl)
  simp only [List.length_nil, Nat.zero_add, List.nil_append] at hap aA
  rw [hH2] at hap
  refine ⟨y, HA, hap, aA.base.trans eB, ?_, aA.wf, aA.own, ?_, ?_⟩
  · have := aA.next; omega
  · intro b hlt _
    exact (aA.same b (by omega) (by simp; omega)).trans (k2 b hlt)
  · intro b hb
    rcases aA.old b hb with h | h
    · simp at h; omega
    · exact .inr (by omega)
theorem seals_T {H : Heap} (hw : H.WF) {x0 : Value} {xs0 : List Int} (hx0 : IntsB H .u8 x0 xs0) (wx0 : ∀ n ∈ xs0, (Lit.int .u8 n).wf = true)
    {x1 : Value} {xs1 : List Int} (hx1 : IntsB H .u8 x1 xs1) (wx1 : ∀ n ∈ xs1, (Lit.int .u8 n).wf = true) : ∃ v H', T Try.prog 4 [x0, x1] H v H' ∧ v = .bool true := by
  obtain ⟨l0, b0, lt0, -⟩ := bs_of hx0 wx0
  obtain ⟨l1, b1, lt1, -⟩ := bs_of hx1 wx1
  refine T_by hm light4 ?_
  obtain ⟨xa, xc, hxl⟩ := b0.len
  obtain ⟨ya, yc, hyl⟩ := b1.len
  by_cases h0 : 1048592 < l0.length
  · have e0 : (1048592 : Int) < l0.length := by omega
    rw [hxl, hyl]
    simp [L4, e0]
  have e0 : ¬ (1048592 : Int) < l0.length := by omega
  by_cases h1 : 1048640 < l1.length
  · have e1 : (1048640 : Int) < l1.length := by omega
    rw [hxl, hyl]
    simp [L4, e0, e1]
  have e1 : ¬ (1048640 : Int) < l1.length := by omega
  obtain ⟨c0, HA, hap0, aA⟩ := copied hw b0 (by omega)
  obtain ⟨v1, HB, T1, y1, rfl, aB⟩ := seal_U aA.wf (own_bs aA.own) lt0
  have b0B := (b0.keep hw aA.base aA.olds).keep aA.wf aB.base aB.olds
  have b1B := (b1.keep hw aA.base aA.olds).keep aA.wf aB.base aB.olds
  obtain ⟨v2, HC, T2, y2, rfl, aC⟩ := sealR_U aB.wf b0B lt0
  have b1C := b1B.keep aB.wf aC.base aC.olds
  obtain ⟨c1, HD, hap1, aD⟩ := copied aC.wf b1C (by omega)
  have b1D := b1C.keep aC.wf aD.base aD.olds
  obtain ⟨v3, HE, T3, y3, rfl, aE⟩ := open_T aD.wf (own_bs aD.own) lt1 (by omega)
  have b1E := b1D.keep aD.wf aE.base aE.olds
  obtain ⟨v4, HF, T4, y4, rfl, aF⟩ := openR_T aE.wf b1E lt1 (by omega)
  have b1F := b1E.keep aE.wf aF.base aF.olds
  have z1 := ((((own_bs aB.own).keep aB.wf aC.base aC.olds).keep aC.wf aD.base aD.olds).keep aD.wf aE.base aE.olds).keep aE.wf aF.base aF.olds
  have z2 := (((own_bs aC.own).keep aC.wf aD.base aD.olds).keep aD.wf aE.base aE.olds).keep aE.wf aF.base aF.olds
  have z3 := (own_bs aE.own).keep aE.wf aF.base aF.olds
  have z4 := own_bs aF.own
  have t1 := toStr_bs z1
  have t2 := toStr_bs z2
  have t3 := toStr_bs z3
  have t4 := toStr_bs z4
  rw [← open_eq l1 lt1] at t4 T4
  have q1 := eql_str (sealS_lt lt0) (sealS_lt lt0)
  have q2 := eql_str (openB_lt lt1) (openB_lt lt1)
  simp only [decide_true] at q1 q2
  have T5 := sum_T b1F lt1 (by omega)
  have T6 := sumR_T b1F lt1 (by omega)
  obtain ⟨v7, HG, T7, rfl, _⟩ := alive_T aF.wf
  rw [hxl] at hap0 T2
  rw [hyl] at hap1 T4 T5 T6
  rw [hxl, hyl]
  simp [L4, e0, e1, hap0]
  refine goT_of T1 ?_
  simp
  refine goT_of T2 ?_
  simp [hap1]
  refine goT_of T3 ?_
  simp
  refine goT_of T4 ?_
  simp [t1, t2, t3, t4, q1, q2]
  refine goT_of T5 ?_
  simp
  refine goT_of T6 ?_
  simp
  refine goT_of T7 ?_
  simp
end Go.Proofs.Ytpcgganldmmpoaa
