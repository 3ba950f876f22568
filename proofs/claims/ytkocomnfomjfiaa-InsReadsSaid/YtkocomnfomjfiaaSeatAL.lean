/-
  Chapter 8: InsReads answers true at every input.
-/
import Derived.Test.YtkocomnfomjfiaaSeatAK
namespace Go.Proofs.Ytkocomnfomjfiaa
open Go.Ot Go.ChangeShapes Go.WideShapes Go.ChangeAt Go.RowKit
set_option linter.unusedSimpArgs false
set_option linter.unusedVariables false
theorem bs_of {H : Heap} {x : Value} {xs : List Int} (h : IntsB H .u8 x xs) (hw : ∀ n ∈ xs, (Lit.int .u8 n).wf = true) : ∃ l : List Nat, Bs H x l ∧ (∀ b ∈ l, b < 256) ∧ xs = l.map (fun (b : Nat) => (b : Int)) := by
  have hr : ∀ n ∈ xs, 0 ≤ n ∧ n ≤ 255 := fun n hn => bounds_u8 (hw n hn)
  have hxs : xs = (xs.map Int.toNat).map (fun (b : Nat) => (b : Int)) := by
    rw [List.map_map]
    conv => lhs; rw [← List.map_id xs]
    refine List.map_congr_left fun n hn => ?_
    simp only [Function.comp_apply, id_eq]
    have := hr n hn; omega
  refine ⟨xs.map Int.toNat, ?_, ?_, hxs⟩
  · rcases h with ⟨rfl, rfl⟩ | ⟨b, off, c, rfl, _, h⟩
    · exact .inl ⟨rfl, rfl⟩
    · refine .inr ⟨b, off, c, by simp, fun i hi => ?_⟩
      have hi' : i < xs.length := by simpa using hi
      rw [h i hi']
      have := hr xs[i] (List.getElem_mem hi')
      simp only [List.getElem_map]
      rw [Int.toNat_of_nonneg this.1]
  · intro b hb
    simp only [List.mem_map] at hb
    obtain ⟨n, hn, rfl⟩ := hb
    have := hr n hn; omega
theorem decS_len (b : List Nat) (cells : Int) : (decS 256 b cells).1.length ≤ 1000000 := by
  unfold decS endS
  split
  · simp
  · split
    · simp
    · split
      · simp
      · rename_i h
        have h' := Classical.byContradiction h
        have := (check_ok h').2.2
        simp only
        omega
theorem readsLaw_T {H : Heap} (hw : H.WF) {x0 : Value} {xs0 : List Int} (hx0 : IntsB H .u8 x0 xs0) (wx0 : ∀ n ∈ xs0, (Lit.int .u8 n).wf = true) (cells : Int) : ∃ v H', T Try.prog 9 [x0, iv cells] H v H' ∧ v = .bool true := by
  obtain ⟨b, b0, lt0, -⟩ := bs_of hx0 wx0
  refine T_by hm light9 ?_
  have hl0 := b0.lenL
  by_cases h0 : 16384 < b.length
  · simp [L9, hl0, h0]
  obtain ⟨c0, HA, hap, aA⟩ := copied hw b0 (by omega)
  have bA := b0.keep hw aA.base (OG.olds aA)
  obtain ⟨v2, H2, T2, y, rfl, hr2, s2⟩ := decode_T aA.wf (own_bs aA.own) lt0 (by omega) cells
  have w2 := T2.grow.wf aA.wf
  have b2 : Bs H2 x0 b := bA.keep aA.wf T2.1 (fun c hc => s2 c hc (by simp))
  obtain ⟨v3, H3, T3, y3, rfl, hr3, s3⟩ := decodeR_T w2 b2 lt0 (by omega) cells
  have w3 := T3.grow.wf w2
  rw [← reads_alike] at T3 hr3
  have hr23 : Rws H3 6 y ((decS 256 b cells).1.map rowI) := hr2.keep w2 T3.1 (fun c hc => s3 c hc (by simp))
  have hlen := decS_len b cells
  have T4 := sameR_T hr23 hr3 hlen
  obtain ⟨v5, H5, T5, rfl, s5⟩ := sameI_T w3 hr23 hr3 hlen
  obtain ⟨v6, H6, T6, rfl⟩ := alive_T (T5.grow.wf w3)
  obtain ⟨e, he⟩ : ∃ e, e = (decS 256 b cells).2 := ⟨_, rfl⟩
  rw [← he] at T2 T3
  simp [L9, hl0, h0, hap]
  refine goT_of T2 ?_
  simp
  refine goT_of T3 ?_
  simp
  refine goT_of T4 ?_
  simp
  refine goT_of T5 ?_
  simp
  refine goT_of T6 ?_
  simp
theorem reads_U {H : Heap} (hw : H.WF) {x0 : Value} {xs0 : List Int} (hx0 : IntsB H .u8 x0 xs0) (wx0 : ∀ n ∈ xs0, (Lit.int .u8 n).wf = true) {cells : Int} (_ : -9223372036854775808 ≤ cells ∧ cells ≤ 9223372036854775807) :
    ∃ v H', T Try.prog 9 [x0, iv cells] H v H' ∧ v = .bool true := readsLaw_T hw hx0 wx0 cells
end Go.Proofs.Ytkocomnfomjfiaa
