/-
  Chapter 8: InsCanon answers true at every input.
-/
import Derived.Test.YtkocomnfomjfiaaSeatAF
namespace Go.Proofs.Ytkocomnfomjfiaa
open Go.Ot Go.ChangeShapes Go.WideShapes Go.ChangeAt Go.RowKit
set_option linter.unusedSimpArgs false
set_option linter.unusedVariables false
theorem bs_of {H : Heap} {x : Value} {xs : List Int} (h : IntsB H .u8 x xs) (hw : ∀ n ∈ xs, (Lit.int .u8 n).wf = true) : ∃ l : List Nat, Bs H x l ∧ (∀ b ∈ l, b < 256) ∧ xs = l.map (fun (b : Nat) => (b : Int)) := by
  have hr : ∀ n ∈ xs, 0 ≤ n ∧ n ≤ 255 := fun n hn => bounds_u8 (hw n hn)
  have hxs : xs = (xs.map Int.toNat).map (fun (b : Nat) => (b : Int)) := by
    rw [List.map_map]
    conv => lhs; rw [← List.map_id xs]
    refine List.map_congr_left fun n hn => ?_
    simp only [Function.comp_apply, id_eq]
    have := hr n hn; omega
  refine ⟨xs.map Int.toNat, ?_, ?_, hxs⟩
  · rcases h with ⟨rfl, rfl⟩ | ⟨b, off, c, rfl, _, h⟩
    · exact .inl ⟨rfl, rfl⟩
    · refine .inr ⟨b, off, c, by simp, fun i hi => ?_⟩
      have hi' : i < xs.length := by simpa using hi
      rw [h i hi']
      have := hr xs[i] (List.getElem_mem hi')
      simp only [List.getElem_map]
      rw [Int.toNat_of_nonneg this.1]
  · intro b hb
    simp only [List.mem_map] at hb
    obtain ⟨n, hn, rfl⟩ := hb
    have := hr n hn; omega
theorem decS_err {M : Nat} {b : List Nat} {cells : Int} (h : (decS M b cells).2 ≠ 0) : (decS M b cells).1 = [] := by
  unfold decS endS at h ⊢
  split
  · rfl
  · rename_i h1
    rw [if_neg h1] at h
    split
    · rfl
    · rename_i h2
      rw [if_neg h2] at h
      split
      · rfl
      · rename_i h3
        rw [if_neg h3] at h
        exact absurd rfl h
theorem canonLaw_T {H : Heap} (hw : H.WF) {x0 : Value} {xs0 : List Int} (hx0 : IntsB H .u8 x0 xs0) (wx0 : ∀ n ∈ xs0, (Lit.int .u8 n).wf = true) (cells : Int) : ∃ v H', T Try.prog 8 [x0, iv cells] H v H' ∧ v = .bool true := by
  obtain ⟨b, b0, lt0, -⟩ := bs_of hx0 wx0
  refine T_by hm light8 ?_
  have hl0 := b0.lenL
  by_cases h0 : 16384 < b.length
  · simp [L8, hl0, h0]
  obtain ⟨c0, HA, hap, aA⟩ := copied hw b0 (by omega)
  have bA := b0.keep hw aA.base (OG.olds aA)
  obtain ⟨v2, H2, T2, y, rfl, hr2, s2⟩ := decode_T aA.wf (own_bs aA.own) lt0 (by omega) cells
  have w2 := T2.grow.wf aA.wf
  have b2 : Bs H2 x0 b := bA.keep aA.wf T2.1 (fun c hc => s2 c hc (by simp))
  by_cases he : (decS 256 b cells).2 = 0
  · obtain ⟨hk, hchk, henc⟩ := canon lt0 he
    obtain ⟨v3, H3, T3, y3, rfl, g3⟩ := encode_T w2 hr2 hk cells
    have hes : encS (decS 256 b cells).1 cells = b := by unfold encS; rw [if_pos hchk]; exact henc
    rw [hes] at g3
    rw [hchk] at T3
    have b3 : Bs H3 x0 b := b2.keep w2 g3.base (OG.olds g3)
    obtain ⟨v6, H6, T6, rfl⟩ := alive_T g3.wf
    have q2 := toStr_bs b3
    have q3 := toStr_bs (own_bs g3.own)
    have eq := eql_str lt0 lt0
    obtain ⟨s, hs⟩ : ∃ s, s = strB b := ⟨_, rfl⟩
    rw [← hs] at q2 q3 eq
    rw [he] at T2
    simp [L8, hl0, h0, hap]
    refine goT_of T2 ?_
    simp
    refine goT_of T3 ?_
    simp [q2, q3, eq]
    refine goT_of T6 ?_
    simp
  · have hnil := decS_err he
    rw [hnil] at hr2
    obtain ⟨a2, c2, hy⟩ := hr2.len
    have hly : sLenL y = some (.int .i64 0) := by rw [hy]; rfl
    obtain ⟨v6, H6, T6, rfl⟩ := alive_T w2
    obtain ⟨e, hee⟩ : ∃ e, e = (decS 256 b cells).2 := ⟨_, rfl⟩
    rw [← hee] at T2 he
    have h0' : (e != 0) = true := by simp [he]
    simp [L8, hl0, h0, hap]
    refine goT_of T2 ?_
    simp [h0', hly]
    refine goT_of T6 ?_
    simp
theorem canon_U {H : Heap} (hw : H.WF) {x0 : Value} {xs0 : List Int} (hx0 : IntsB H .u8 x0 xs0) (wx0 : ∀ n ∈ xs0, (Lit.int .u8 n).wf = true) {cells : Int} (_ : -9223372036854775808 ≤ cells ∧ cells ≤ 9223372036854775807) :
    ∃ v H', T Try.prog 8 [x0, iv cells] H v H' ∧ v = .bool true := canonLaw_T hw hx0 wx0 cells
end Go.Proofs.Ytkocomnfomjfiaa
