/-
  PackTurned answers true at all bytes, places and turns.
-/
import Derived.Test.YtpcgganldmmpoaaSeatM
namespace Go.Proofs.Ytpcgganldmmpoaa
open Go.Ot Go.ChangeShapes Go.WideShapes Go.ChangeAt Go.RowKit
set_option linter.unusedSimpArgs false
set_option linter.unusedVariables false
theorem xor_u8 (a b : Nat) (ha : a < 256) (hb : b < 256) : IntKind.u8.wrap ((BitVec.ofInt IntKind.u8.bits (a : Int) ^^^ BitVec.ofInt IntKind.u8.bits (b : Int)).toNat : Int) = ((a ^^^ b : Nat) : Int) := by
  rw [BitVec.toNat_xor, bits_u8 a ha, bits_u8 b hb, wu8_mod, Nat.mod_eq_of_lt (Nat.xor_lt_two_pow (n := 8) ha hb)]
theorem turned_T {H : Heap} (hw : H.WF) {x0 : Value} {xs0 : List Int} (hx0 : IntsB H .u8 x0 xs0) (wx0 : ∀ n ∈ xs0, (Lit.int .u8 n).wf = true)
    {at' : Int} (hat : -9223372036854775808 ≤ at' ∧ at' ≤ 9223372036854775807) {tn : Int} (htn : 0 ≤ tn ∧ tn ≤ 255) : ∃ v H', T Try.prog 5 [x0, .int .i64 at', .int .u8 tn] H v H' ∧ v = .bool true := by
  obtain ⟨l, b0, lt, -⟩ := bs_of hx0 wx0
  obtain ⟨tu, rfl⟩ : ∃ tu : Nat, tn = tu := ⟨tn.toNat, by omega⟩
  refine T_by hm light5 ?_
  obtain ⟨xa, xc, hxl⟩ := b0.len
  by_cases h0 : 4096 < l.length
  · have e0 : (4096 : Int) < l.length := by omega
    rw [hxl]
    simp [L5, e0]
  have e0 : ¬ (4096 : Int) < l.length := by omega
  obtain ⟨c0, HA, hap0, aA⟩ := copied hw b0 (by omega)
  obtain ⟨v1, HB, T1, y1, rfl, aB⟩ := seal_T aA.wf (own_bs aA.own) lt (by omega)
  have b0B := (b0.keep hw aA.base aA.olds).keep aA.wf aB.base aB.olds
  have sl16 := sealB_len l
  obtain ⟨c1, HC, hap1, aC⟩ := copied aB.wf (own_bs aB.own) (by omega)
  obtain ⟨v3, HD, T3, y3, rfl, aD⟩ := open_T aC.wf (own_bs aC.own) (sealB_lt lt) (by omega)
  rw [open_seal l lt (by omega)] at T3 aD
  dsimp only at T3 aD
  have b0D := (b0B.keep aB.wf aC.base aC.olds).keep aC.wf aD.base aD.olds
  have o1 : Own HD 5 1 (sealB l).length (bc (sealB l)) y1 := (aB.own.keep (B_eq aC.base) (fun b hb => aC.olds b (aB.own.lt aB.wf hb))).keep (B_eq aD.base) (fun b hb => aD.olds b (Nat.lt_of_lt_of_le (aB.own.lt aB.wf hb) aC.next))
  have t3 := toStr_bs (own_bs aD.own)
  have t0 := toStr_bs b0D
  have q := neq_str lt lt
  simp only [ne_eq, not_true_eq_false, decide_false] at q
  obtain ⟨v7, HG, T7, rfl, _⟩ := alive_T aD.wf
  rcases o1.2 with ⟨_, hz⟩ | ⟨b1, rest, hy1, hB1, hk1⟩
  · omega
  rw [hxl] at hap0 t0
  rw [hy1] at hap1
  by_cases htz : tu = 0
  · subst htz
    rw [hxl]
    simp [L5, e0, hap0]
    refine goT_of T1 ?_
    rw [hy1]
    simp [hap1]
    refine goT_of T3 ?_
    simp [t3, t0, q]
    refine goT_of T7 ?_
    simp
  have htz' : ¬ (tu : Int) = 0 := by omega
  obtain ⟨n, hn⟩ : ∃ n, n = (sealB l).length := ⟨_, rfl⟩
  have hn1 : 16 ≤ n ∧ n ≤ 4112 := by omega
  obtain ⟨r, hr⟩ : ∃ r, r = at'.tmod (n : Int) := ⟨_, rfl⟩
  have hr1 : -(n : Int) < r ∧ r < n := by
    rw [hr]
    have := Int.tmod_lt_of_pos at' (show (0 : Int) < n by omega)
    have := Int.lt_tmod_of_pos at' (show (0 : Int) < n by omega)
    omega
  obtain ⟨i, hi⟩ : ∃ i : Nat, (i : Int) = (r + n).tmod (n : Int) := ⟨((r + n).tmod (n : Int)).toNat, by
    rw [Int.toNat_of_nonneg]
    exact Int.tmod_nonneg _ (by omega)⟩
  have hi1 : i < n := by
    have := Int.tmod_lt_of_pos (r + n) (show (0 : Int) < n by omega)
    omega
  have r1 : sBin .rem (.int .i64 at') (.int .i64 (n : Int)) = some (.int .i64 r) := by rw [sBin_rem, if_neg (by omega), hr]
  have r2 : IntKind.i64.wrap (r + n) = r + n := w64 _ (by omega)
  have r3 : sBin .rem (.int .i64 (r + n)) (.int .i64 (n : Int)) = some (.int .i64 (i : Int)) := by rw [sBin_rem, if_neg (by omega), hi]
  have hiS : i < (sealB l).length := by omega
  have hlt1 := sealB_lt lt _ (List.getElem_mem hiS)
  obtain ⟨c, hc⟩ : ∃ c, c = (sealB l)[i] ^^^ tu := ⟨_, rfl⟩
  have hc256 : c < 256 := by rw [hc]; exact Nat.xor_lt_two_pow (n := 8) hlt1 (by omega)
  have hcne : c ≠ (sealB l)[i] := by
    intro h
    rw [hc] at h
    have h2 := congrArg ((sealB l)[i] ^^^ ·) h
    simp only [← Nat.xor_assoc, Nat.xor_self, Nat.zero_xor] at h2
    exact htz h2
  have x1 : sBin .xor (.int .u8 (((sealB l)[i] : Nat) : Int)) (.int .u8 (tu : Int)) = some (.int .u8 (c : Int)) := by
    rw [sBin_xor, xor_u8 _ _ hlt1 (by omega), hc]
  have ld : HD.load ⟨b1, i, none⟩ = some (.int .u8 (((sealB l)[i] : Nat) : Int)) := by
    rw [load_at hB1 hk1, List.getElem?_append_left (by rw [bc_len]; exact hiS)]
    simp [bc, hiS]
  obtain ⟨HE, hHE⟩ : ∃ HE, HE = HD.put b1 ((bc (sealB l) ++ rest).set i (.int .u8 (c : Int))) := ⟨_, rfl⟩
  have st : HD.store ⟨b1, i, none⟩ (.int .u8 (c : Int)) = some HE := by
    rw [store_own hB1 hk1, hHE, if_pos (by rw [List.length_append, bc_len]; omega)]
  have wE : HE.WF := by rw [hHE]; exact WF_put aD.wf _ _
  have oE : Own HE 5 1 n (bc ((sealB l).set i c)) y1 := by
    refine ⟨by rw [bc_len, List.length_set]; omega, .inr ⟨b1, rest, by rw [hy1, ← hn], by rw [hHE]; exact hB1, ?_⟩⟩
    rw [hHE]
    simp only [blk_put, if_true, hk1, Option.map_some]
    rw [List.set_append_left _ _ (by rw [bc_len]; exact hiS)]
    simp [bc, List.map_set]
  have ltE : ∀ b ∈ (sealB l).set i c, b < 256 := by
    intro b h
    rcases List.mem_or_eq_of_mem_set h with h | h
    · exact sealB_lt lt b h
    · omega
  obtain ⟨v5, HF, T5, y5, rfl, aF⟩ := open_T wE (own_bs oE) ltE (by rw [List.length_set]; omega)
  obtain ⟨p1, p2⟩ := open_turned l lt i c hiS hc256 hcne
  obtain ⟨ec, hec⟩ : ∃ ec, ec = (openB ((sealB l).set i c)).1 := ⟨_, rfl⟩
  rw [← hec] at p1 T5
  rw [p2] at aF
  have hec0 : ((ec : Int) != 0) = true := bne_iff_ne.2 (by omega)
  obtain ⟨y5a, hy5⟩ := aF.own.len
  obtain ⟨v8, HH, T8, rfl, _⟩ := alive_T aF.wf
  rw [hy1, ← hn] at T5
  rw [hy5] at T5
  rw [← hn] at hap1 hy1 T3
  have hin : (i : Int) < (n : Int) := by omega
  rw [hxl]
  simp [L5, e0, hap0]
  refine goT_of T1 ?_
  rw [hy1]
  simp [hap1]
  refine goT_of T3 ?_
  simp [t3, t0, q, htz', htz, r1, r2, r3, hin, ld, x1, st]
  refine goT_of T5 ?_
  simp [hec0, p1]
  refine goT_of T8 ?_
  simp
end Go.Proofs.Ytpcgganldmmpoaa
