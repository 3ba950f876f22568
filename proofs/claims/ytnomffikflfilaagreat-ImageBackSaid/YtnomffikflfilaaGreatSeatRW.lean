/-
  Chapter 26: ImageBack.
-/
import Derived.Test.YtnomffikflfilaaGreatSeatRV
namespace Go.Proofs.YtnomffikflfilaaGreat
open Go.Ot Go.RowKit
open E8 (sealB Bs openB jpOf Jr JpB)
set_option linter.unusedSimpArgs false
set_option linter.unusedVariables false
set_option maxRecDepth 100000
theorem L4_eq : L4 = K4_0 := rfl
theorem packV_nil {J : Jb} {C : Cfg} {l : List Ent} (h : (packV J C l).1 ≠ 0) : (packV J C l).2 = [] := by
  unfold packV at h ⊢
  split
  · rfl
  · split
    · rfl
    · rename_i h1 h2
      rw [if_neg h1, if_neg h2] at h
      exact absurd rfl h
theorem back_T {H : Heap} (hw : H.WF) {J : Jb} (j0 : Jb0 H J) (jb : JbB J) (C : Cfg) {a : Option Addr} {c : Nat} {l : List Ent} (hx : Rl H (.slice a l.length c) l) (hb : ∀ e ∈ l, -9223372036854775808 ≤ e.1 ∧ e.1 ≤ 9223372036854775807) :
    T Tryz.prog 4 [.agg (runC J C (.slice a l.length c)).toArray] H (.bool true) H := by
  refine T_seen hm light4 rfl ?_
  obtain ⟨HA, hHA⟩ : ∃ HA, HA = H.new 35 23 (runC J C (.slice a l.length c)) := ⟨_, rfl⟩
  have onA : On H HA := by rw [hHA]; exact (On.refl hw).new _ _ _
  have vA : Vr HA H.next 35 23 (runC J C (.slice a l.length c)) := by rw [hHA]; exact Vr.mk' hw _ _ _
  have lA := (RL.of vA).lA
  have wA := onA.wf
  have gT := great24_T wA (j0.on hw onA) C (a := a) (n := l.length) (c := c) 50000
  obtain ⟨g, hg⟩ : ∃ g, g = (greatV J || decide ((50000 : Int) < (l.length : Int))) := ⟨_, rfl⟩
  rw [← hg] at gT
  cases g with
  | true =>
    simp [L4, K4_0, K4_1, ← hHA, lA]
    refine goT_of gT ?_
    simp
    exact onA.keep
  | false =>
  have hg' := hg.symm
  simp only [Bool.or_eq_false_iff, decide_eq_false_iff_not] at hg'
  obtain ⟨hgJ, hl⟩ := hg'
  have hl : l.length ≤ 50000 := by omega
  have ok := ok_of j0 hgJ
  have okA := ok.on hw onA
  have pA := play_E wA J C a l.length c
  obtain ⟨rc, hrc⟩ : ∃ r, r = runC J C (.slice a l.length c) := ⟨_, rfl⟩
  have e4 : L4 = K4_0 := L4_eq
  simp [e4, K4_0, ← hHA, lA]
  simp [K4_1, lA]
  refine goT_of gT ?_
  simp [K4_2, lA]
  refine goA_of wA pA ?_
  rintro o H1 ⟨rfl, on1⟩ w1 b1 n1
  have onH1 := onA.trans on1
  have kE := pack_E w1 (okA.on wA on1) jb C ((hx.on hw onA).on wA on1) hl hb
  have hnil := packV_nil (J := J) (C := C) (l := l)
  have hun := fun h0 => E8.un_of j0.S jb (C := C) hb h0
  obtain ⟨V, hV⟩ : ∃ V, V = packV J C l := ⟨_, rfl⟩
  unfold PackQ at kE
  rw [← hV] at kE hnil hun
  refine goA_of w1 kE ?_
  rintro o H2 ⟨on2, y, rfl, oy, ny⟩ w2 b2 n2
  have onH2 := onH1.trans on2
  have onA2 := on1.trans on2
  have al2 := alive_T H2
  obtain ⟨ya, hy⟩ := oy.len
  have lny : sLenL y = some (iv V.2.length) := by rw [hy]; rfl
  have nty : notTup y = true := by rw [hy]; rfl
  by_cases hV0 : V.1 = 0
  case neg =>
    have hVI : (V.1 != 0) = true := by simp [hV0]
    rw [hnil hV0] at lny
    simp [nty, K4_3, hV0, hVI, lny]
    refine goT_of al2 ?_
    simp
    exact onH2.keep
  obtain ⟨b, hVb, ltb, lnb, hu, ho, hpre⟩ := hun hV0
  rw [hVb] at oy
  have X2 := E8.own_bs oy
  have uE := E8.unpack_E w2 X2 ltb lnb
  have pB := (E8.preS_B (B := (openB b).2) (E8.openB_lt ltb) (Nat.le_trans (E8.openB_len b) lnb)).1
  rw [hpre] at pB
  simp [nty, K4_3, hV0, K4_4]
  refine goA_of w2 uE ?_
  rintro o H3 ⟨on3, cs, rfl, _, hgood⟩ w3 b3 n3
  obtain ⟨xc, xr, xk, y2, hcs, J3, E3⟩ := hgood hu
  rw [hpre] at hcs J3 E3
  rw [hu]
  have hcl : cs.length = 23 := by rw [hcs]; rfl
  have st := new_storeA w3 42 23 E8.zer23 cs rfl hcl (by decide)
  have V4 : Vr (H3.new 42 23 cs) H3.next 42 23 cs := Vr.mk' w3 _ _ _
  have on4 : On H3 (H3.new 42 23 cs) := (On.refl w3).new _ _ _
  obtain ⟨H4, hH4⟩ : ∃ D, D = H3.new 42 23 cs := ⟨_, rfl⟩
  rw [← hH4] at st V4 on4
  have st' : sStore (H3.new 42 23 [.int .i64 0, .slice none 0 0, .slice none 0 0, .int .i64 0, .int .i64 0, .int .i64 0, .int .i64 0, .int .i64 0, .int .i64 0, .int .i64 0, .slice none 0 0, .int .i64 0, .int .i64 0, .int .i64 0, .int .i64 0, .int .i64 0, .int .i64 0, .int .i64 0, .int .i64 0, .int .i64 0, .int .i64 0, .bool false, .slice none 0 0]) 23 (.pointer (some ⟨H3.next, 0, none⟩)) (.agg cs.toArray) = some H4 := st
  have onA4 := onA2.trans (on3.trans on4)
  have onH4 := onA.trans onA4
  have w4 := onH4.wf
  have ld := V4.loadA (m := 23) hcl
  have lA4 := (RL.of (vA.on wA onA4)).lA
  have pA4 := play_E w4 J C a l.length c
  have okAA := okA
  have fin : ∀ H5, On H4 H5 → T Tryz.prog 17 [.agg cs.toArray, .agg (runC J C (.slice a l.length c)).toArray] H5 (.bool true) H5 := by
    intro H5 on5
    have ok5 := okAA.on wA (onA4.trans on5)
    have J5 : Jr H5 (jpOf J) J.xc J.xr J.xk := ⟨ok5.xc, ok5.xr, ok5.xk⟩
    have h5 := E8.playsame_T on5.wf ((J3.on w3 on4).on w4 on5) J5 pB.n C ((E3.on w3 on4).on w4 on5) (hx.on hw (onH4.trans on5)) (show l.length ≤ 100000 by omega)
    rw [← hcs] at h5
    exact h5
  have ld5 : ∀ H5, On H4 H5 → H5.loadN ⟨H3.next, 0, none⟩ 0 23 = some cs := fun H5 on5 => (V4.on w4 on5).loadA (m := 23) hcl
  clear hcs hV
  rw [← hrc] at fin lA4 pA4
  clear hrc
  simp [hcl, st', K4_5, ld, lA4, K4_6]
  refine goA_of w4 pA4 ?_
  rintro o H5 ⟨rfl, on5⟩ w5 b5 n5
  have f5 := fin H5 on5
  have l5 := ld5 H5 on5
  have al5 := alive_T H5
  simp [ld, l5]
  refine goT_of f5 ?_
  simp
  refine goT_of al5 ?_
  simp
  exact (onH4.trans on5).keep
theorem back_U {H : Heap} (hw : H.WF) {cs : List Value} (h0 : Rd Tryz.prog H 7 35 cs) : ∃ v H', T Tryz.prog 4 [.agg cs.toArray] H v H' ∧ v = .bool true := by
  obtain ⟨J, C, a, c, l, rfl, ⟨hJ, jb⟩, hl, hb⟩ := rdb_run2 cs h0
  exact ⟨_, _, back_T hw hJ jb C hl hb, rfl⟩
end Go.Proofs.YtnomffikflfilaaGreat
