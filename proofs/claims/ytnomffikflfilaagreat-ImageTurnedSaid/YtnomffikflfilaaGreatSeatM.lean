/-
  Chapter 26: ImageTurned.
-/
import Derived.Test.YtnomffikflfilaaGreatSeatI
namespace Go.Proofs.YtnomffikflfilaaGreat
open Go.Ot Go.RowKit
open E8 (sealB Bs openB)
set_option linter.unusedSimpArgs false
set_option linter.unusedVariables false
abbrev zer23 : List Value := [iv 0, .slice none 0 0, .slice none 0 0, iv 0, iv 0, iv 0, iv 0, iv 0, iv 0, iv 0, .slice none 0 0, iv 0, iv 0, iv 0, iv 0, iv 0, iv 0, iv 0, iv 0, iv 0, iv 0, .bool false, .slice none 0 0]
theorem bits_u8 (a : Nat) (ha : a < 256) : (BitVec.ofInt IntKind.u8.bits (a : Int)).toNat = a := by
  simp [IntKind.bits, BitVec.toNat_ofInt]
  omega
theorem xor_u8 (a b : Nat) (ha : a < 256) (hb : b < 256) : IntKind.u8.wrap ((BitVec.ofInt IntKind.u8.bits (a : Int) ^^^ BitVec.ofInt IntKind.u8.bits (b : Int)).toNat : Int) = ((a ^^^ b : Nat) : Int) := by
  rw [BitVec.toNat_xor, bits_u8 a ha, bits_u8 b hb]
  have h := Nat.xor_lt_two_pow (n := 8) ha hb
  exact wu8 _ (by omega)
theorem unpack_bad {H : Heap} (hw : H.WF) {x : Value} {l : List Nat} (h : Bs H x l) (hb : ∀ b ∈ l, b < 256) (hl : l.length ≤ 1000000000) (he : (openB l).1 ≠ 0) : T Tryz.prog 16 [x] H (.tuple #[.agg zer23.toArray, iv ((openB l).1 : Int)]) H := by
  refine T_seen hm light16 rfl ?_
  obtain ⟨e, he2⟩ : ∃ e, e = (openB l).1 := ⟨_, rfl⟩
  rw [← he2] at he ⊢
  obtain ⟨HA, hHA⟩ : ∃ HA, HA = H.new 42 23 zer23 := ⟨_, rfl⟩
  have onA : On H HA := by rw [hHA]; exact (On.refl hw).new _ _ _
  have vA : Vr HA H.next 42 23 zer23 := by rw [hHA]; exact Vr.mk' hw _ _ _
  have wA := onA.wf
  obtain ⟨v1, H1, T1, y, rfl, g1⟩ := E8.open_T wA (E8.Bs.keep hw onA.base onA.keep h) hb (by omega)
  have on1 : On HA H1 := ⟨g1.wf, g1.base, g1.next, E8.OG.olds g1⟩
  rw [← he2] at T1
  obtain ⟨ya, hy⟩ := g1.own.len
  have ny : notTup y = true := by rw [hy]; rfl
  have v1' := vA.on wA on1
  have s1 := v1'.storeA (m := 23) (by decide) zer23 rfl rfl
  rw [v1'.same] at s1
  have l1 := v1'.loadA (m := 23) rfl
  have e1 : ((e : Int) != 0) = true := bne_iff_ne.2 (by omega)
  have onF := onA.trans on1
  have hHA2 : H.new 42 23 [iv 0, .slice none 0 0, .slice none 0 0, iv 0, iv 0, iv 0, iv 0, iv 0, iv 0, iv 0, .slice none 0 0, iv 0, iv 0, iv 0, iv 0, iv 0, iv 0, iv 0, iv 0, iv 0, iv 0, .bool false, .slice none 0 0] = HA := hHA.symm
  simp [L16, hHA2]
  refine goT_of T1 ?_
  simp [ny, e1, s1, l1]
  exact onF.keep
theorem resume_bad {H : Heap} (hw : H.WF) {x : Value} {l : List Nat} (h : Bs H x l) (hb : ∀ b ∈ l, b < 256) (hl : l.length ≤ 1000000000) (he : (openB l).1 ≠ 0) : T Tryz.prog 20 [x] H (.tuple #[.pointer none, iv ((openB l).1 : Int)]) H := by
  refine T_seen hm light20 rfl ?_
  have uT := unpack_bad hw h hb hl he
  obtain ⟨e, he2⟩ : ∃ e, e = (openB l).1 := ⟨_, rfl⟩
  rw [← he2] at he uT ⊢
  have st := new_storeA hw 42 23 zer23 zer23 rfl rfl (by decide)
  obtain ⟨HA, hHA⟩ : ∃ HA, HA = H.new 42 23 zer23 := ⟨_, rfl⟩
  have onA : On H HA := by rw [hHA]; exact (On.refl hw).new _ _ _
  rw [← hHA] at st
  have e1 : ((e : Int) != 0) = true := bne_iff_ne.2 (by omega)
  have hHA2 : H.new 42 23 [iv 0, .slice none 0 0, .slice none 0 0, iv 0, iv 0, iv 0, iv 0, iv 0, iv 0, iv 0, .slice none 0 0, iv 0, iv 0, iv 0, iv 0, iv 0, iv 0, iv 0, iv 0, iv 0, iv 0, .bool false, .slice none 0 0] = HA := hHA.symm
  simp [L20]
  refine goT_of uT ?_
  simp [hHA2, st, e1]
  exact onA.keep
theorem turned_T {H : Heap} (hw : H.WF) {J : Jb} (j0 : Jb0 H J) (jb : JbB J) (C : Cfg) {a : Option Addr} {c : Nat} {l : List Ent} (hx : Rl H (.slice a l.length c) l) (hb : ∀ e ∈ l, -9223372036854775808 ≤ e.1 ∧ e.1 ≤ 9223372036854775807) {at' : Int} (hat : -9223372036854775808 ≤ at' ∧ at' ≤ 9223372036854775807) {tn : Int} (htn : 0 ≤ tn ∧ tn ≤ 255) :
    T Tryz.prog 6 [.agg (runC J C (.slice a l.length c)).toArray, iv at', .int .u8 tn] H (.bool true) H := by
  refine T_seen hm light6 rfl ?_
  obtain ⟨tu, htu⟩ : ∃ tu : Nat, tn = tu := ⟨tn.toNat, by omega⟩
  obtain ⟨HA, hHA⟩ : ∃ HA, HA = H.new 35 23 (runC J C (.slice a l.length c)) := ⟨_, rfl⟩
  have onA : On H HA := by rw [hHA]; exact (On.refl hw).new _ _ _
  have vA : Vr HA H.next 35 23 (runC J C (.slice a l.length c)) := by rw [hHA]; exact Vr.mk' hw _ _ _
  have lA := (RL.of vA).lA
  have wA := onA.wf
  have gT := great24_T wA (j0.on hw onA) C (a := a) (n := l.length) (c := c) 400
  obtain ⟨g, hg⟩ : ∃ g, g = (greatV J || decide ((400 : Int) < (l.length : Int))) := ⟨_, rfl⟩
  rw [← hg] at gT
  cases g with
  | true =>
    simp [L6, ← hHA, lA]
    refine goT_of gT ?_
    simp
    exact onA.keep
  | false =>
  have hg' := hg.symm
  simp only [Bool.or_eq_false_iff, decide_eq_false_iff_not] at hg'
  obtain ⟨hgJ, hl⟩ := hg'
  have hl : l.length ≤ 400 := by omega
  have ok := ok_of j0 hgJ
  have okA := ok.on hw onA
  have pA := play_E wA J C a l.length c
  simp [L6, ← hHA, lA]
  refine goT_of gT ?_
  simp [lA]
  refine goA_of wA pA ?_
  rintro o H1 ⟨rfl, on1⟩ w1 b1 n1
  have onH1 := onA.trans on1
  have kE := pack_E w1 (okA.on wA on1) jb C ((hx.on hw onA).on wA on1) (by omega) hb
  obtain ⟨V, hV⟩ : ∃ V, V = packV J C l := ⟨_, rfl⟩
  unfold PackQ at kE
  rw [← hV] at kE
  refine goA_of w1 kE ?_
  rintro o H2 ⟨on2, y, rfl, oy, ny⟩ w2 b2 n2
  have onH2 := onH1.trans on2
  have al2 := alive_T H2
  obtain ⟨ya, hy⟩ := oy.len
  have lny : sLenL y = some (iv V.2.length) := by rw [hy]; rfl
  have nty : notTup y = true := by rw [hy]; rfl
  obtain ⟨z, hz⟩ : ∃ z, z = (V.1 != 0) := ⟨_, rfl⟩
  cases z with
  | true =>
    simp [nty, ← hz]
    refine goT_of al2 ?_
    simp
    exact onH2.keep
  | false =>
  have hV0 : V.1 = 0 := by simpa using hz.symm
  by_cases hbig : (20000 : Int) < (V.2.length : Int)
  · simp [nty, ← hz, lny, hbig]
    refine goT_of al2 ?_
    simp
    exact onH2.keep
  by_cases ht0 : tn = 0
  · have e0 : (tn == 0) = true := by simp [ht0]
    simp [nty, ← hz, lny, hbig, e0]
    refine goT_of al2 ?_
    simp
    exact onH2.keep
  have e0 : (tn == 0) = false := by simp [ht0]
  have htz : tu ≠ 0 := by omega
  -- a seal
  obtain ⟨B, hB⟩ : ∃ B, B = bodyV J C l := ⟨_, rfl⟩
  have hVB : V = (0, sealB B) ∧ B.length ≤ 1048576 := by
    unfold packV at hV
    rw [← hB] at hV
    split at hV
    · rename_i h1; rw [hV] at hV0; exact absurd hV0 h1
    · split at hV
      · rw [hV] at hV0; cases hV0
      · rename_i h2; exact ⟨hV, by omega⟩
  obtain ⟨hVB, hBl⟩ := hVB
  have ltB : ∀ b ∈ B, b < 256 := by rw [hB]; exact bodyV_lt J C l
  have hV2 : V.2 = sealB B := by rw [hVB]
  rw [hV2] at oy lny hbig
  have sl16 := E8.sealB_len B
  obtain ⟨n, hn⟩ : ∃ n, n = (sealB B).length := ⟨_, rfl⟩
  have hn1 : 16 ≤ n ∧ n ≤ 20000 := by omega
  obtain ⟨r, hr⟩ : ∃ r, r = at'.tmod (n : Int) := ⟨_, rfl⟩
  have hr1 : -(n : Int) < r ∧ r < n := by
    rw [hr]
    have := Int.tmod_lt_of_pos at' (show (0 : Int) < n by omega)
    have := Int.lt_tmod_of_pos at' (show (0 : Int) < n by omega)
    omega
  obtain ⟨i, hi⟩ : ∃ i : Nat, (i : Int) = (r + n).tmod (n : Int) := ⟨((r + n).tmod (n : Int)).toNat, by
    rw [Int.toNat_of_nonneg]
    exact Int.tmod_nonneg _ (by omega)⟩
  have hi1 : i < n := by
    have := Int.tmod_lt_of_pos (r + n) (show (0 : Int) < n by omega)
    omega
  have r1 : sBin .rem (.int .i64 at') (.int .i64 (n : Int)) = some (.int .i64 r) := by rw [sBin_rem, if_neg (by omega), hr]
  have r2 : IntKind.i64.wrap (r + n) = r + n := w64 _ (by omega)
  have r3 : sBin .rem (.int .i64 (r + n)) (.int .i64 (n : Int)) = some (.int .i64 (i : Int)) := by rw [sBin_rem, if_neg (by omega), hi]
  have hiS : i < (sealB B).length := by omega
  have hlt1 := E8.sealB_lt ltB _ (List.getElem_mem hiS)
  obtain ⟨ch, hc⟩ : ∃ ch, ch = (sealB B)[i] ^^^ tu := ⟨_, rfl⟩
  have hc256 : ch < 256 := by rw [hc]; exact Nat.xor_lt_two_pow (n := 8) hlt1 (by omega)
  have hcne : ch ≠ (sealB B)[i] := by
    intro h
    rw [hc] at h
    have h2 := congrArg ((sealB B)[i] ^^^ ·) h
    simp only [← Nat.xor_assoc, Nat.xor_self, Nat.zero_xor] at h2
    exact htz h2
  have x1 : sBin .xor (.int .u8 (((sealB B)[i] : Nat) : Int)) (.int .u8 tn) = some (.int .u8 (ch : Int)) := by
    rw [htu, sBin_xor, xor_u8 _ _ hlt1 (by omega), hc]
  have og : E8.OG H1 H2 (.slice none 0 0) (sealB B) y := ⟨on2.base, on2.next, on2.wf, oy, fun b hb _ => on2.keep b hb, fun b hb => .inr (ny b hb)⟩
  obtain ⟨b1, H3, hy1, ld, st, g3⟩ := E8.OG.set og hiS ch
  have on13 : On H1 H3 := ⟨g3.wf, g3.base, g3.next, E8.OG.olds g3⟩
  have onH3 := onH1.trans on13
  have w3 := onH3.wf
  have bs3 : Bs H3 y ((sealB B).set i ch) := E8.own_bs g3.own
  have lt3 : ∀ b ∈ (sealB B).set i ch, b < 256 := by
    intro b h
    rcases List.mem_or_eq_of_mem_set h with h | h
    · exact E8.sealB_lt ltB b h
    · omega
  obtain ⟨p1, p2⟩ := E8.open_turned B ltB i ch hiS hc256 hcne
  have uT := unpack_bad w3 bs3 lt3 (by rw [List.length_set]; omega) p1
  obtain ⟨ec, hec⟩ : ∃ ec, ec = (openB ((sealB B).set i ch)).1 := ⟨_, rfl⟩
  have st3 := new_storeA w3 42 23 zer23 zer23 rfl rfl (by decide)
  obtain ⟨H4, hH4⟩ : ∃ H4, H4 = H3.new 42 23 zer23 := ⟨_, rfl⟩
  have on4 : On H3 H4 := by rw [hH4]; exact (On.refl w3).new _ _ _
  rw [← hH4] at st3
  have rT := resume_bad on4.wf (E8.Bs.keep w3 on4.base on4.keep bs3) lt3 (by rw [List.length_set]; omega) p1
  rw [← hec] at uT rT p1
  have onH4 := onH3.trans on4
  have ec0 : ((ec : Int) != 0) = true := bne_iff_ne.2 (by omega)
  have al4 := alive_T H4
  have hH42 : H3.new 42 23 [iv 0, .slice none 0 0, .slice none 0 0, iv 0, iv 0, iv 0, iv 0, iv 0, iv 0, iv 0, .slice none 0 0, iv 0, iv 0, iv 0, iv 0, iv 0, iv 0, iv 0, iv 0, iv 0, iv 0, .bool false, .slice none 0 0] = H4 := hH4.symm
  rw [← hn] at lny hbig
  have n0 : ((n : Int) == 0) = false := by simp; omega
  have n0' : ¬ n = 0 := by omega
  have hin : (i : Int) < (n : Int) := by omega
  have hy2 : y = .slice (some ⟨b1, 0, none⟩) n 0 := by rw [hy1, hn]
  rw [hy2] at uT rT
  rw [hy2] at lny
  rw [hy2]
  simp [← hz, hbig, e0, n0, n0', r1, r2, r3, hi1, hin, ld, x1, st]
  refine goT_of uT ?_
  simp [hH42, st3]
  refine goT_of rT ?_
  simp [ec0]
  refine goT_of al4 ?_
  simp
  exact onH4.keep
set_option maxRecDepth 100000 in
theorem turned_U {H : Heap} (hw : H.WF) {cs : List Value} (h0 : Rd Tryz.prog H 7 35 cs) {at' : Int} (hat : -9223372036854775808 ≤ at' ∧ at' ≤ 9223372036854775807) {tn : Int} (htn : 0 ≤ tn ∧ tn ≤ 255) : ∃ v H', T Tryz.prog 6 [.agg cs.toArray, iv at', .int .u8 tn] H v H' ∧ v = .bool true := by
  obtain ⟨J, C, a, c, l, rfl, ⟨hJ, jb⟩, hl, hb⟩ := rdb_run2 cs h0
  exact ⟨_, _, turned_T hw hJ jb C hl hb hat htn, rfl⟩
end Go.Proofs.YtnomffikflfilaaGreat
