/-
  Chapter 26: the document's image.
-/
import Derived.Test.YtnomffikflfilaaGreatSeatQE
namespace Go.Proofs.YtnomffikflfilaaGreat
open Go.Ot Go.RowKit
open E8 (encU zz encU_len zz_lt encU_b uintR_T intR_T OG Bs bc sealB)
open R14 (Twos)
set_option linter.unusedSimpArgs false
set_option linter.unusedVariables false
theorem nat_of {n : Int} (h : 0 ≤ n) : ∃ m : Nat, n = (m : Int) := ⟨n.toNat, by omega⟩
theorem packR_T {H : Heap} (hw : H.WF) {J : Jb} (ok : JbOk H J) (jb : JbB J) (C : Cfg) {a : Option Addr} {c : Nat} {l : List Ent} (hx : Rl H (.slice a l.length c) l) (hl : l.length ≤ 50000) (hb : ∀ e ∈ l, -9223372036854775808 ≤ e.1 ∧ e.1 ≤ 9223372036854775807) :
    ∃ v H', T Tryz.prog 12 [.agg (jobC J).toArray, .agg (cfgC C).toArray, .slice a l.length c] H v H' ∧ ∃ y, v = .tuple #[y, iv (packV J C l).1] ∧ OG H H' nilS (packV J C l).2 y := by
  refine T_by hm light12 ?_
  obtain ⟨V, hV⟩ : ∃ V, V = packV J C l := ⟨_, rfl⟩
  rw [← hV]
  unfold packV at hV
  obtain ⟨HA, hHA⟩ : ∃ HA, HA = H.new 29 11 (jobC J) := ⟨_, rfl⟩
  have onA : On H HA := by rw [hHA]; exact (On.refl hw).new _ _ _
  have vA : Vr HA H.next 29 11 (jobC J) := by rw [hHA]; exact Vr.mk' hw _ _ _
  obtain ⟨HB, hHB⟩ : ∃ HB, HB = HA.new 32 11 (cfgC C) := ⟨_, rfl⟩
  have onB : On HA HB := by rw [hHB]; exact (On.refl onA.wf).new _ _ _
  have nA : HA.next = H.next + 1 := by rw [hHA]; rfl
  have vC : Vr HB (H.next + 1) 32 11 (cfgC C) := by rw [hHB, ← nA]; exact Vr.mk' onA.wf _ _ _
  have vJ := vA.on onA.wf onB
  have onH := onA.trans onB
  have w0 := onH.wf
  have lJ := vJ.loadA (m := 11) rfl
  have lC := vC.loadA (m := 11) rfl
  have okB := ok.on hw onH
  have hxB := hx.on hw onH
  have iT := right26_T w0 okB C a l.length c
  have hHA2 : H.new 29 11 [iv J.words, J.xc, J.xr, iv J.fuel, iv J.S.kind, iv J.S.lo, iv J.S.hi, iv J.S.step, iv J.S.items, iv J.S.stages, J.xk] = HA := hHA.symm
  have hHB2 : HA.new 32 11 [iv C.workers, iv C.window, iv C.policy, iv C.chunk, iv C.reads, iv C.writes, iv C.outs, iv C.arena, iv C.edges, iv C.retry, .bool C.force] = HB := hHB.symm
  by_cases hp : playE J C l.length = 0
  case neg =>
    rw [if_pos hp] at hV
    have e1 : (playE J C l.length != 0) = true := bne_iff_ne.2 hp
    simp [L12, hHA2, hHB2, nA, lJ, lC]
    refine goT_of iT ?_
    simp [e1, hV]
    exact (OG.grown onH.base onH.next onH.wf onH.keep)
  rw [if_neg (by simpa using hp)] at hV
  rw [hp] at iT
  have hvr : validE J = 0 ∧ rightE C = 0 := by
    unfold playE at hp
    split at hp
    · rename_i h; exact absurd hp h
    · rename_i h
      split at hp
      · rename_i h2; exact absurd hp h2
      · rename_i h2; exact ⟨by simpa using h, by simpa using h2⟩
  obtain ⟨hv, hr⟩ := hvr
  obtain ⟨jw, jc, jr, jf, jk⟩ := job_ok hv
  have hten := ten_ok hr
  have nc := okB.nc
  have nr := okB.nr
  have nk := okB.nk
  have hS := okB.S
  obtain ⟨ac, cc, hxc⟩ := okB.xc.len
  obtain ⟨ar, cr, hxr⟩ := okB.xr.len
  obtain ⟨ak, ck, hxk⟩ := okB.xk.len
  have lxc : sLenL J.xc = some (iv J.cells.length) := by rw [hxc]; rfl
  have lxr : sLenL J.xr = some (iv J.reds.length) := by rw [hxr]; rfl
  have lxk : sLenL J.xk = some (iv J.codes.length) := by rw [hxk]; rfl
  obtain ⟨v1, H1, T1, g1⟩ := ub_T w0 (E8.nil_own HB) (n := 1) (by omega) (by simp)
  have u1 := encU_len 9 1 (by omega)
  rw [List.nil_append] at g1
  obtain ⟨w, hw1⟩ := nat_of (n := J.words) (by omega)
  have jl1 : H1.load ⟨H.next, 0, none⟩ = some (iv w) := by rw [← hw1]; exact (vJ.on w0 (OG.onN g1)).load 0
  obtain ⟨v2, H2, T2, g2⟩ := ub_T g1.wf g1.own (n := w) (by omega) (by omega)
  have u2 := encU_len 9 w (by omega)
  have G2 := g1.trans g2
  have jl2 : H2.load ⟨H.next, 1, none⟩ = some J.xc := (vJ.on w0 (OG.onN G2)).load 1
  have N2 : (encU 1 ++ encU w).length ≤ 20 := by rw [List.length_append]; omega
  obtain ⟨v3, H3, T3, g3⟩ := ub_T G2.wf G2.own (n := J.cells.length) (by omega) (by omega)
  have u3 := encU_len 9 J.cells.length (by omega)
  have G3 := G2.trans g3
  obtain ⟨b3, hb3⟩ : ∃ b, b = encU 1 ++ encU w ++ encU J.cells.length := ⟨_, rfl⟩
  have N3 : b3.length ≤ 30 := by rw [hb3, List.length_append]; omega
  rw [← hb3] at G3
  simp [L12, hHA2, hHB2, nA, lJ, lC]
  refine goT_of iT ?_
  simp
  refine goT_of T1 ?_
  simp [jl1]
  refine goT_of T2 ?_
  simp [jl2, lxc]
  refine goT_of T3 ?_
  simp
  refine cellsR w0 vJ okB.xc (fun c hc => by have := jc c hc; exact ⟨by omega, by omega, (jb.c c hc).2⟩) (by omega) G3 (by omega) (by simp) (by simp) (by simp) ?_
  intro t4 H4 v4 q2 q3 q4 q9 g4
  simp at q2 q4
  have G4 := G3.trans g4
  have hc4 := encCs_len J.cells (fun c hc => by have := jc c hc; exact ⟨by omega, by omega, (jb.c c hc).2⟩)
  obtain ⟨b4, hb4⟩ : ∃ b, b = b3 ++ encCs J.cells := ⟨_, rfl⟩
  have N4 : b4.length ≤ 5100 := by rw [hb4, List.length_append]; omega
  rw [← hb4] at G4
  have jl4 : H4.load ⟨H.next, 2, none⟩ = some J.xr := (vJ.on w0 (OG.onN G4)).load 2
  obtain ⟨v5, H5, T5, g5⟩ := ub_T G4.wf G4.own (n := J.reds.length) (by omega) (by omega)
  have u5 := encU_len 9 J.reds.length (by omega)
  have G5 := G4.trans g5
  obtain ⟨b5, hb5⟩ : ∃ b, b = b4 ++ encU J.reds.length := ⟨_, rfl⟩
  have N5 : b5.length ≤ 5110 := by rw [hb5, List.length_append]; omega
  rw [← hb5] at G5
  simp [q9, q3, jl4, lxr]
  refine goT_of T5 ?_
  simp
  refine redsR w0 vJ okB.xr (fun c hc => by have := jr c hc; exact ⟨by omega, by omega, (jb.r c hc).2⟩) (by omega) G5 (by omega) (by simp [q3]) (by simp) (by simp) ?_
  intro t6 H6 v6 r2 r3 r4 r9 g6
  simp [q2, q4] at r2 r4
  have G6 := G5.trans g6
  have hc6 := encCs_len J.reds (fun c hc => by have := jr c hc; exact ⟨by omega, by omega, (jb.r c hc).2⟩)
  obtain ⟨b6, hb6⟩ : ∃ b, b = b5 ++ encCs J.reds := ⟨_, rfl⟩
  have N6 : b6.length ≤ 6200 := by rw [hb6, List.length_append]; omega
  rw [← hb6] at G6
  obtain ⟨f, hf⟩ := nat_of (n := J.fuel) (by omega)
  obtain ⟨kd, hkd⟩ := nat_of (n := J.S.kind) (by omega)
  have V6 := vJ.on w0 (OG.onN G6)
  have jl6 : H6.load ⟨H.next, 3, none⟩ = some (iv f) := by rw [← hf]; exact V6.load 3
  have jl6' : H6.load ⟨H.next, 4, none⟩ = some (iv kd) := by rw [← hkd]; exact V6.load 4
  obtain ⟨v7, H7, T7, g7⟩ := ub_T G6.wf G6.own (n := f) (by omega) (by omega)
  have u7 := encU_len 9 f (by omega)
  have G7 := G6.trans g7
  have jl7 : H7.load ⟨H.next, 4, none⟩ = some (iv kd) := by rw [← hkd]; exact (vJ.on w0 (OG.onN G7)).load 4
  have N7 : (b6 ++ encU f).length ≤ 6210 := by rw [List.length_append]; omega
  obtain ⟨v8, H8, T8, g8⟩ := ub_T G7.wf G7.own (n := kd) (by omega) (by omega)
  have u8 := encU_len 9 kd (by omega)
  have G8 := G7.trans g8
  obtain ⟨b8, hb8⟩ : ∃ b, b = b6 ++ encU f ++ encU kd := ⟨_, rfl⟩
  have N8 : b8.length ≤ 6220 := by rw [hb8, List.length_append]; omega
  rw [← hb8] at G8
  simp [r9, r3, jl6]
  refine goT_of T7 ?_
  simp [r3, jl6', jl7]
  refine goT_of T8 ?_
  have V8 := vJ.on w0 (OG.onN G8)
  have s1 : H8.load ⟨H.next, 5, none⟩ = some (iv J.S.lo) := V8.load 5
  have s2 : H8.load ⟨H.next, 6, none⟩ = some (iv J.S.hi) := V8.load 6
  have s3 : H8.load ⟨H.next, 7, none⟩ = some (iv J.S.step) := V8.load 7
  have s4 : H8.load ⟨H.next, 8, none⟩ = some (iv J.S.items) := V8.load 8
  have s5 : H8.load ⟨H.next, 9, none⟩ = some (iv J.S.stages) := V8.load 9
  have w8 := G8.wf
  obtain ⟨y, hy⟩ : ∃ y, y = H8.next := ⟨_, rfl⟩
  obtain ⟨H9, hH9⟩ : ∃ H9, H9 = H8.new 2 1 (R14.ci (five J.S)) := ⟨_, rfl⟩
  have on9 : On H8 H9 := by rw [hH9]; exact (On.refl w8).new _ _ _
  have v9 : Vr H9 y 2 1 (R14.ci (five J.S)) := by rw [hH9, hy]; exact Vr.mk' w8 _ _ _
  have hH92 : H8.new 2 1 [iv J.S.lo, iv J.S.hi, iv J.S.step, iv J.S.items, iv J.S.stages] = H9 := hH9.symm
  have G9 := E8.OG.beside G8 on9.base on9.next on9.wf on9.keep
  have n9 : H9.next = H8.next + 1 := by rw [hH9]; rfl
  have ok5 : ∀ n ∈ five J.S, okW n := by
    intro n hn
    simp only [five, List.mem_cons, List.not_mem_nil, or_false] at hn
    rcases hn with rfl | rfl | rfl | rfl | rfl
    · exact hS.lo
    · exact hS.hi
    · exact hS.step
    · exact hS.items
    · exact hS.stages
  obtain ⟨v10, H10, T10, g10⟩ := ub_T G9.wf G9.own (n := 5) (by omega) (by omega)
  have T10' : T Tryz.prog 39 [v8, iv 5] H9 v10 H10 := T10
  have u10 := encU_len 9 5 (by omega)
  have G10 := G9.trans g10
  have y8 : blkOf v8 ≠ some y := fun e => by have := G8.own.lt w8 e; omega
  have y10 : blkOf v10 ≠ some y := fun e => by
    rcases g10.old _ e with h | h
    · exact y8 h
    · omega
  have V10 : Vr H10 y 2 1 (R14.ci (five J.S)) := v9.keep g10.base (g10.same _ (by omega) y8)
  have N10 : (b8 ++ encU 5).length ≤ 6230 := by rw [List.length_append]; omega
  have z5 : zerosA [iv 0] 5 = [iv 0, iv 0, iv 0, iv 0, iv 0] := rfl
  simp [r3, s1, s2, s3, s4, s5, z5, hH92, ← hy]
  refine goT_of T10' ?_
  simp
  refine fiveR V10 rfl ok5 G10.wf G10.own y10 (by omega) (by simp) (by simp) (by simp) ?_
  intro t11 H11 v11 m2 m3 m4 m9 g11
  simp [r2, r3, r4] at m2 m3 m4
  have G11 := G10.trans g11
  have l5 : (five J.S).length = 5 := rfl
  have h11 := flatMap_len (k := 10) (five J.S) (g := fun n => encU (zz n)) (fun n hn => encU_len 9 _ (by have := zz_lt (ok5 n hn); omega))
  obtain ⟨b11, hb11⟩ : ∃ b, b = b8 ++ encU 5 ++ (five J.S).flatMap (fun n => encU (zz n)) := ⟨_, rfl⟩
  have N11 : b11.length ≤ 6290 := by rw [hb11, List.length_append]; omega
  rw [← hb11] at G11
  have jl11 : H11.load ⟨H.next, 10, none⟩ = some J.xk := (vJ.on w0 (OG.onN G11)).load 10
  obtain ⟨v12, H12, T12, g12⟩ := ub_T G11.wf G11.own (n := J.codes.length) (by omega) (by omega)
  have u12 := encU_len 9 J.codes.length (by omega)
  have G12 := G11.trans g12
  obtain ⟨b12, hb12⟩ : ∃ b, b = b11 ++ encU J.codes.length := ⟨_, rfl⟩
  have N12 : b12.length ≤ 6300 := by rw [hb12, List.length_append]; omega
  rw [← hb12] at G12
  simp [m9, m3, jl11, lxk]
  refine goT_of T12 ?_
  simp
  refine codesR w0 vJ okB jb.k G12 (by omega) (by simp [m3]) (by simp) (by simp) ?_
  intro t13 H13 v13 o2 o3 o4 o9 g13
  simp [m2, m4] at o2 o4
  have G13 := G12.trans g13
  have eJ : encU 1 ++ encJ J = b12 ++ encKs J.reds.length J.codes := by
    unfold encJ
    rw [show J.words.toNat = w by omega, show J.fuel.toNat = f by omega, show J.S.kind.toNat = kd by omega, hb12, hb11, hb8, hb6, hb5, hb4, hb3]
    simp only [List.append_assoc]
  rw [← eJ] at G13
  have hJl := encJ_len hv nc nr nk hS jb
  have N13 : (encU 1 ++ encJ J).length ≤ 2000010 := by rw [List.length_append]; omega
  have VC := vC.on w0 (OG.onN G13)
  have c0 : H13.load ⟨H.next + 1, 0, none⟩ = some (iv C.workers) := VC.load 0
  have c1 : H13.load ⟨H.next + 1, 1, none⟩ = some (iv C.window) := VC.load 1
  have c2 : H13.load ⟨H.next + 1, 2, none⟩ = some (iv C.policy) := VC.load 2
  have c3 : H13.load ⟨H.next + 1, 3, none⟩ = some (iv C.chunk) := VC.load 3
  have c4 : H13.load ⟨H.next + 1, 4, none⟩ = some (iv C.reads) := VC.load 4
  have c5 : H13.load ⟨H.next + 1, 5, none⟩ = some (iv C.writes) := VC.load 5
  have c6 : H13.load ⟨H.next + 1, 6, none⟩ = some (iv C.outs) := VC.load 6
  have c7 : H13.load ⟨H.next + 1, 7, none⟩ = some (iv C.arena) := VC.load 7
  have c8 : H13.load ⟨H.next + 1, 8, none⟩ = some (iv C.edges) := VC.load 8
  have c9 : H13.load ⟨H.next + 1, 9, none⟩ = some (iv C.retry) := VC.load 9
  have w13 := G13.wf
  obtain ⟨z, hz⟩ : ∃ y, y = H13.next := ⟨_, rfl⟩
  obtain ⟨H14, hH14⟩ : ∃ H14, H14 = H13.new 3 1 (R14.ci (ten C)) := ⟨_, rfl⟩
  have on14 : On H13 H14 := by rw [hH14]; exact (On.refl w13).new _ _ _
  have v14 : Vr H14 z 3 1 (R14.ci (ten C)) := by rw [hH14, hz]; exact Vr.mk' w13 _ _ _
  have hH142 : H13.new 3 1 [iv C.workers, iv C.window, iv C.policy, iv C.chunk, iv C.reads, iv C.writes, iv C.outs, iv C.arena, iv C.edges, iv C.retry] = H14 := hH14.symm
  have G14 := E8.OG.beside G13 on14.base on14.next on14.wf on14.keep
  have z13 : blkOf v13 ≠ some z := fun e => by have := G13.own.lt w13 e; omega
  have z10 : zerosA [iv 0] 10 = [iv 0, iv 0, iv 0, iv 0, iv 0, iv 0, iv 0, iv 0, iv 0, iv 0] := rfl
  simp [o9, o4, c0, c1, c2, c3, c4, c5, c6, c7, c8, c9, z10, hH142, ← hz]
  refine tenR v14 rfl hten G14.wf G14.own z13 (by omega) (by simp) (by simp [o9]) (by simp) ?_
  intro t15 H15 v15 p2 p3 p4 p9 g15
  simp [o2, o3, o4] at p2 p3 p4
  have G15 := G14.trans g15
  have hCl := encC_len hr
  have N15 : (encU 1 ++ encJ J ++ (ten C).flatMap (fun n => encU n.toNat)).length ≤ 2000120 := by
    have : ((ten C).flatMap (fun n => encU n.toNat)).length ≤ 101 := by
      have h := hCl
      unfold encC at h
      rw [List.length_append] at h
      omega
    rw [List.length_append]; omega
  have cf : H15.load ⟨H.next + 1, 10, none⟩ = some (.bool C.force) := (vC.on w0 (OG.onN G15)).load 10
  obtain ⟨v16, H16, T16, g16⟩ := fb_T G15.wf G15.own C.force (by omega)
  have G16 := G15.trans g16
  have eC : encU 1 ++ encJ J ++ (ten C).flatMap (fun n => encU n.toNat) ++ [if C.force then 1 else 0] = encU 1 ++ encJ J ++ encC C := by unfold encC; simp only [List.append_assoc]
  rw [eC] at G16
  have N16 : (encU 1 ++ encJ J ++ encC C).length ≤ 2000111 := by rw [List.length_append]; omega
  obtain ⟨v17, H17, T17, g17⟩ := ub_T G16.wf G16.own (n := l.length) (by omega) (by omega)
  have u17 := encU_len 9 l.length (by omega)
  have G17 := G16.trans g17
  have N17 : (encU 1 ++ encJ J ++ encC C ++ encU l.length).length ≤ 2000121 := by rw [List.length_append]; omega
  simp [p9, p4, cf]
  refine goT_of T16 ?_
  simp [p2]
  refine goT_of T17 ?_
  simp
  refine entsR w0 hxB hl hb G17 (by omega) (by simp [p2]) (by simp) (by simp) (by simp) ?_
  intro t18 H18 v18 k9 g18
  have G18 := G17.trans g18
  obtain ⟨B, hB⟩ : ∃ B, B = bodyV J C l := ⟨_, rfl⟩
  have eB : encU 1 ++ encJ J ++ encC C ++ encU l.length ++ encR l.length l = B := by rw [hB]; unfold bodyV; simp only [List.append_assoc]
  rw [eB] at G18
  have hlt : ∀ b ∈ B, b < 256 := by rw [hB]; exact bodyV_lt J C l
  rw [← hB] at hV
  have bs := E8.own_bs G18.own
  have GH : OG H H18 nilS B v18 := (OG.grown onH.base onH.next onH.wf onH.keep).trans G18
  by_cases hbig : 1048576 < B.length
  · rw [if_pos hbig] at hV
    have sT := E8.sealR_big bs hbig
    simp [k9]
    refine goT_of sT ?_
    simp [hV]
    have o := OG.onN GH
    exact OG.grown o.base o.next o.wf o.keep
  · rw [if_neg hbig] at hV
    obtain ⟨v19, H19, T19, ye, rfl, g19⟩ := E8.sealR_T G18.wf bs hlt (by omega)
    obtain ⟨ya, hya⟩ := g19.own.len
    have ny : notTup ye = true := by rw [hya]; rfl
    have o := OG.onN GH
    simp [k9]
    refine goT_of T19 ?_
    simp [hV, ny]
    exact (OG.grown o.base o.next o.wf o.keep).trans g19
end Go.Proofs.YtnomffikflfilaaGreat
