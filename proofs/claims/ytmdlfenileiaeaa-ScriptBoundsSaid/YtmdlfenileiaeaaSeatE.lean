/-
  Chapter 25: script.Parse, with its deferred closure.
-/
import Derived.Test.YtmdlfenileiaeaaSeatD
namespace Go.Proofs.Ytmdlfenileiaeaa
open Go.Ot Go.RowKit
set_option linter.unusedSimpArgs false
set_option linter.unusedVariables false
def parseP (S : List Nat) : Res := if 8192 < S.length then .err 30 0 else match items S 8 0 with
  | .err e a => .err e a
  | .ok l a => if a < S.length then .err 250 a else .ok l a
theorem fitsI_nil : fitsNil (.interface #[]) .nilIface = true := rfl
theorem fitsI (t : TypeId) (v : Value) : fitsNil (.interface #[]) (.iface t v) = true := rfl
theorem isNil_nil : isNil .nilIface = some true := rfl
theorem isNil_i (t : TypeId) (v : Value) : isNil (.iface t v) = some false := rfl
/-- The results' variables. -/
structure RV (H : Heap) (a b c : Nat) (x y z : Value) : Prop where
  va : Vr H a 22 1 [x]
  vb : Vr H b 3 1 [y]
  vc : Vr H c 23 1 [z]
  ab : a ≠ b
  ac : a ≠ c
  bc : b ≠ c
theorem closure_none {H : Heap} (hw : H.WF) {a b c : Nat} : TD Try.prog 22 [ptr a, ptr b, ptr c] H none (fun H' => H' = H) := by
  refine TD_by hm rec22 (fun x h => by cases h) ?_
  simp [L22r, fitsI_nil, isNil_nil]
theorem closure_some {H : Heap} (hw : H.WF) {a b c : Nat} {x y z : Value} (V : RV H a b c x y z) (e : Int) (k : Nat) :
    TD Try.prog 22 [ptr a, ptr b, ptr c] H (some (stopV e k)) (fun H' => RV H' a b c (.slice none 0 0) (iv k) (iv e) ∧ ∀ q, q < H.next → q ≠ a → q ≠ b → q ≠ c → H'.blk q = H.blk q) := by
  refine TD_by hm rec22 (fun x h => by cases h; rfl) ?_
  obtain ⟨va, vb, vc, ab, ac, bc⟩ := V
  have la := hw.lt va.bq
  have lb := hw.lt vb.bq
  have lc := hw.lt vc.bq
  have st := new_storeA hw 63 2 [iv 0, iv 0] [iv e, iv k] rfl rfl (by decide)
  obtain ⟨H1, hH1⟩ : ∃ H1, H1 = H.new 63 2 [iv e, iv k] := ⟨_, rfl⟩
  rw [← hH1] at st
  have on1 : On H H1 := by rw [hH1]; exact (On.refl hw).new _ _ _
  have V1 : Vr H1 H.next 63 2 [iv e, iv k] := by rw [hH1]; exact Vr.mk' hw _ _ _
  have l0 : H1.load ⟨H.next, 0, none⟩ = some (iv e) := V1.load 0
  have l1 : H1.load ⟨H.next, 1, none⟩ = some (iv k) := V1.load 1
  have va1 := va.on hw on1
  have vb1 := vb.on hw on1
  have vc1 := vc.on hw on1
  have s1 : H1.store ⟨a, 0, none⟩ (.slice none 0 0) = some (H1.put a [.slice none 0 0]) := va1.store 0 _ (by simp)
  obtain ⟨H2, hH2⟩ : ∃ H2, H2 = H1.put a [.slice none 0 0] := ⟨_, rfl⟩
  rw [← hH2] at s1
  have va2 : Vr H2 a 22 1 [.slice none 0 0] := by rw [hH2]; exact va1.put _
  have vb2 : Vr H2 b 3 1 [y] := by rw [hH2]; exact vb1.beside ab.symm _
  have vc2 : Vr H2 c 23 1 [z] := by rw [hH2]; exact vc1.beside ac.symm _
  have V2 : Vr H2 H.next 63 2 [iv e, iv k] := by rw [hH2]; exact V1.beside (by omega) _
  have l02 : H2.load ⟨H.next, 0, none⟩ = some (iv e) := V2.load 0
  have l12 : H2.load ⟨H.next, 1, none⟩ = some (iv k) := V2.load 1
  have s2 : H2.store ⟨b, 0, none⟩ (iv k) = some (H2.put b [iv k]) := vb2.store 0 _ (by simp)
  obtain ⟨H3, hH3⟩ : ∃ H3, H3 = H2.put b [iv k] := ⟨_, rfl⟩
  rw [← hH3] at s2
  have va3 : Vr H3 a 22 1 [.slice none 0 0] := by rw [hH3]; exact va2.beside ab _
  have vb3 : Vr H3 b 3 1 [iv k] := by rw [hH3]; exact vb2.put _
  have vc3 : Vr H3 c 23 1 [z] := by rw [hH3]; exact vc2.beside bc.symm _
  have V3 : Vr H3 H.next 63 2 [iv e, iv k] := by rw [hH3]; exact V2.beside (by omega) _
  have l03 : H3.load ⟨H.next, 0, none⟩ = some (iv e) := V3.load 0
  have l13 : H3.load ⟨H.next, 1, none⟩ = some (iv k) := V3.load 1
  have s3 : H3.store ⟨c, 0, none⟩ (iv e) = some (H3.put c [iv e]) := vc3.store 0 _ (by simp)
  obtain ⟨H4, hH4⟩ : ∃ H4, H4 = H3.put c [iv e] := ⟨_, rfl⟩
  rw [← hH4] at s3
  have va4 : Vr H4 a 22 1 [.slice none 0 0] := by rw [hH4]; exact va3.beside ac _
  have vb4 : Vr H4 b 3 1 [iv k] := by rw [hH4]; exact vb3.beside bc _
  have vc4 : Vr H4 c 23 1 [iv e] := by rw [hH4]; exact vc3.put _
  have fin : RV H4 a b c (.slice none 0 0) (iv k) (iv e) ∧ ∀ q, q < H.next → q ≠ a → q ≠ b → q ≠ c → H4.blk q = H.blk q :=
    ⟨⟨va4, vb4, vc4, ab, ac, bc⟩, fun q h1 h2 h3 h4 => by rw [hH4, hH3, hH2]; simp [h2, h3, h4, on1.keep q h1]⟩
  simp [L22r, stopV, fitsI, isNil_i, st, l0, l1, l02, l12, l03, l13, s1, s2, s3]
  exact fin
def ParseQ (H : Heap) (R : Res) (r : Out) (H' : Heap) : Prop := match R with
  | .ok l _ => ∃ y, r = .ret (.tuple #[y, iv 0, iv 0]) ∧ Row H H' 36 2 l.length (ec l) y
  | .err e a => r = .ret (.tuple #[.slice none 0 0, iv a, iv e]) ∧ On H H'
theorem parse_N {H : Heap} (hw : H.WF) (s : ByteArray) : TN Try.prog 8 [.string s] H (ParseQ H (parseP (bts s))) := by
  refine N_def hm defer8 ?_
  obtain ⟨RR, hRR⟩ : ∃ R, R = parseP (bts s) := ⟨_, rfl⟩
  rw [← hRR]
  obtain ⟨HA, hHA⟩ : ∃ HA, HA = H.new 22 1 [.slice none 0 0] := ⟨_, rfl⟩
  obtain ⟨HB, hHB⟩ : ∃ HB, HB = HA.new 3 1 [iv 0] := ⟨_, rfl⟩
  obtain ⟨HC, hHC⟩ : ∃ HC, HC = HB.new 23 1 [iv 0] := ⟨_, rfl⟩
  have onA : On H HA := by rw [hHA]; exact (On.refl hw).new _ _ _
  have onB : On H HB := by rw [hHB]; exact onA.new _ _ _
  have onC : On H HC := by rw [hHC]; exact onB.new _ _ _
  have nA : HA.next = H.next + 1 := by rw [hHA]; simp
  have nB : HB.next = H.next + 2 := by rw [hHB]; simp [nA]
  have nC : HC.next = H.next + 3 := by rw [hHC]; simp [nB]
  have va : Vr HC H.next 22 1 [.slice none 0 0] := by rw [hHC, hHB, hHA]; exact ((Vr.mk' hw 22 1 [.slice none 0 0]).new (WF_new hw _ _ _) _ _ _).new (by rw [← hHA, ← hHB]; exact onB.wf) _ _ _
  have vb : Vr HC (H.next + 1) 3 1 [iv 0] := by rw [hHC, hHB, ← nA]; exact (Vr.mk' onA.wf 3 1 [iv 0]).new (by rw [← hHB]; exact onB.wf) _ _ _
  have vc : Vr HC (H.next + 2) 23 1 [iv 0] := by rw [hHC, ← nB]; exact Vr.mk' onB.wf 23 1 [iv 0]
  have V : RV HC H.next (H.next + 1) (H.next + 2) (.slice none 0 0) (iv 0) (iv 0) := ⟨va, vb, vc, by omega, by omega, by omega⟩
  have hN : ((H.new 22 1 [.slice none 0 0]).new 3 1 [iv 0]).new 23 1 [iv 0] = HC := by rw [hHC, hHB, hHA]
  unfold parseP at hRR
  by_cases hl : 8192 < (bts s).length
  · rw [if_pos hl] at hRR
    have e1 : (8192 : Int) < (s.size : Int) := by rw [len_str]; omega
    have s1 : HC.store ⟨H.next, 0, none⟩ (.slice none 0 0) = some HC := by rw [va.store 0 _ (by simp)]; exact congrArg some va.same
    have s2 : HC.store ⟨H.next + 1, 0, none⟩ (iv 0) = some HC := by rw [vb.store 0 _ (by simp)]; exact congrArg some vb.same
    have s3 : HC.store ⟨H.next + 2, 0, none⟩ (iv 30) = some (HC.put (H.next + 2) [iv 30]) := vc.store 0 _ (by simp)
    have va2 := va.beside (show H.next ≠ H.next + 2 by omega) [iv 30]
    have vb2 := vb.beside (show H.next + 1 ≠ H.next + 2 by omega) [iv 30]
    have vc2 := vc.put [iv 30]
    obtain ⟨HD, hHD⟩ : ∃ HD, HD = HC.put (H.next + 2) [iv 30] := ⟨_, rfl⟩
    have onD : On H HD := by rw [hHD]; exact onC.put (by omega) _
    rw [← hHD] at s3 va2 vb2 vc2
    have m1 : HD.load ⟨H.next, 0, none⟩ = some (.slice none 0 0) := va2.load 0
    have m2 : HD.load ⟨H.next + 1, 0, none⟩ = some (iv 0) := vb2.load 0
    have m3 : HD.load ⟨H.next + 2, 0, none⟩ = some (iv 30) := vc2.load 0
    show wpPre Try.prog L8p _ _ _ (rdy H)
    simp [L8p, hN, e1, s1, s2, s3, m1, m2, m3]
    rw [hRR]
    exact ⟨rfl, onD⟩
  · rw [if_neg hl] at hRR
    have e1 : ¬ (8192 : Int) < (s.size : Int) := by rw [len_str]; omega
    show wpPre Try.prog L8p _ _ _ (rdy H)
    simp [L8p, hN, e1]
    refine ⟨⟨rfl, rfl, rfl⟩, ?_⟩
    obtain ⟨HR, hHR⟩ : ∃ HR, HR = HC.new 67 3 (rdr s 0 0) := ⟨_, rfl⟩
    have onR : On H HR := by rw [hHR]; exact onC.new _ _ _
    have onCR : On HC HR := by rw [hHR]; exact (On.refl onC.wf).new _ _ _
    have VR : Vr HR HC.next 67 3 (rdr s 0 0) := by rw [hHR]; exact Vr.mk' onC.wf _ _ _
    have hR : HC.new 67 3 [.string s, iv 0, iv 0] = HR := hHR.symm
    have nR : HR.next = HC.next + 1 := by rw [hHR]; rfl
    have iN := items_N (s := s) (p := HC.next) (by omega) 8 0 rfl HR 0 onR.wf VR (by omega)
    -- the deferred call behind a panic
    have caught : ∀ (G : Heap) (x : Value) (e : Int) (k : Nat) (t : Tm), G.WF → On H G → RV G H.next (H.next + 1) (H.next + 2) x (iv 0) (iv 0) → t 2 = ptr H.next → t 3 = ptr (H.next + 1) → t 4 = ptr (H.next + 2) → RR = .err e k →
        goD Try.prog 22 [ptr H.next, ptr (H.next + 1), ptr (H.next + 2)] G (some (stopV e k)) t [.cell 2 false 1, .cell 3 false 1, .cell 4 false 1] (ParseQ H RR) := by
      intro G x e k t wG onG VG u2 u3 u4 hr
      refine goD_of (closure_some wG VG e k) ?_
      rintro G' ⟨V', keep⟩ w' b' n'
      have m1 : G'.load ⟨H.next, 0, none⟩ = some (.slice none 0 0) := V'.va.load 0
      have m2 : G'.load ⟨H.next + 1, 0, none⟩ = some (iv k) := V'.vb.load 0
      have m3 : G'.load ⟨H.next + 2, 0, none⟩ = some (iv e) := V'.vc.load 0
      refine ⟨[.slice none 0 0, iv k, iv e], by simp [u2, u3, u4, m1, m2, m3], ?_⟩
      rw [hr]
      refine ⟨rfl, w', b'.trans onG.base, Nat.le_trans onG.next n', fun b hb => ?_⟩
      have := onG.next
      rw [keep b (by omega) (by omega) (by omega) (by omega), onG.keep b hb]
    simp [L8r, hR]
    refine goN_of iN ?_
    rintro r H4 ⟨fr, hq⟩ w4 b4 n4
    have onH4 : On H H4 := ⟨w4, fr.base.trans onR.base, Nat.le_trans onR.next fr.next, fun b hb => by rw [fr.keep b (by omega) (by omega), onR.keep b hb]⟩
    have va4 : Vr H4 H.next 22 1 [.slice none 0 0] := (va.on onC.wf onCR).fr onR.wf (by omega) fr
    have vb4 : Vr H4 (H.next + 1) 3 1 [iv 0] := (vb.on onC.wf onCR).fr onR.wf (by omega) fr
    have vc4 : Vr H4 (H.next + 2) 23 1 [iv 0] := (vc.on onC.wf onCR).fr onR.wf (by omega) fr
    cases hit : items (bts s) 8 0 with
    | err e a =>
      rw [hit] at hq hRR
      have hq : r = .pan (stopV e a) := hq
      subst hq
      simp
      exact caught H4 _ e a _ w4 onH4 ⟨va4, vb4, vc4, by omega, by omega, by omega⟩ (by simp) (by simp) (by simp) hRR
    | ok l a =>
      rw [hit] at hq hRR
      simp only at hRR
      obtain ⟨x, rfl, own, V4, nx⟩ := hq
      obtain ⟨ax, hx⟩ := own.len
      have s1 : sStore H4 1 (.pointer (some ⟨H.next, 0, none⟩)) x = some (H4.put H.next [x]) := by
        rw [hx, sStore_slice, ← hx, va4.store 0 _ (by simp)]; rfl
      have va5 := va4.put [x]
      have vb5 := vb4.beside (show H.next + 1 ≠ H.next by omega) [x]
      have vc5 := vc4.beside (show H.next + 2 ≠ H.next by omega) [x]
      have V5 := V4.beside (show HC.next ≠ H.next by omega) [x]
      have own5 : Own (H4.put H.next [x]) 36 2 l.length (ec l) x := own.keep rfl (fun b hb => by have := nx b hb; simp [show b ≠ H.next by omega])
      have on5 : On H (H4.put H.next [x]) := onH4.put (Nat.le_refl _) _
      obtain ⟨H5, hH5⟩ : ∃ H5, H5 = H4.put H.next [x] := ⟨_, rfl⟩
      rw [← hH5] at s1 va5 vb5 vc5 V5 own5 on5
      have l5 : H5.load ⟨HC.next, 1, none⟩ = some (iv a) := V5.load 1
      have hnt : notTup x = true := by rw [hx]; rfl
      have hcx : x.cells = #[x] := by rw [hx]; rfl
      by_cases hlt : a < (bts s).length
      · rw [if_pos hlt] at hRR
        have c1 : (a : Int) < (s.size : Int) := by rw [len_str]; omega
        have gN := give_N V5 250
        simp [s1, l5, c1]
        refine goN_of gN ?_
        rintro r H' ⟨rfl, rfl⟩ _ _ _
        simp
        exact caught H' _ 250 a _ on5.wf on5 ⟨va5, vb5, vc5, by omega, by omega, by omega⟩ (by simp) (by simp) (by simp) hRR
      · rw [if_neg hlt] at hRR
        have c1 : ¬ (a : Int) < (s.size : Int) := by rw [len_str]; omega
        have m1 : H5.load ⟨H.next, 0, none⟩ = some x := va5.load 0
        have m2 : H5.load ⟨H.next + 1, 0, none⟩ = some (iv 0) := vb5.load 0
        have m3 : H5.load ⟨H.next + 2, 0, none⟩ = some (iv 0) := vc5.load 0
        have s2 : sStore H5 1 (.pointer (some ⟨H.next, 0, none⟩)) x = some H5 := by
          rw [hx, sStore_slice, ← hx, va5.store 0 _ (by simp)]; exact congrArg some va5.same
        have s3 : H5.store ⟨H.next + 1, 0, none⟩ (iv 0) = some H5 := by rw [vb5.store 0 _ (by simp)]; exact congrArg some vb5.same
        have s4 : H5.store ⟨H.next + 2, 0, none⟩ (iv 0) = some H5 := by rw [vc5.store 0 _ (by simp)]; exact congrArg some vc5.same
        simp [s1, l5, c1, m1, s2, s3, s4]
        refine goD_of (closure_none on5.wf) ?_
        rintro G' rfl w' b' n'
        refine ⟨[x, iv 0, iv 0], by simp [m1, m2, m3, hnt], ?_⟩
        rw [hRR]
        exact ⟨x, rfl, own5, on5, fun b hb => by have := nx b hb; omega⟩
end Go.Proofs.Ytmdlfenileiaeaa
