/-
  Chapter 27: all events, one behind the other.
-/
import Derived.Test.YtjkfghekdcalhaaSeatI
import Derived.Test.YtjkfghekdcalhaaSeatH
namespace Go.Proofs.Ytjkfghekdcalhaa
open Go.Ot Go.RowKit
open R14 (Twos ci joinV addN ontoN)
set_option linter.unusedSimpArgs false
set_option linter.unusedVariables false
set_option maxRecDepth 100000
def nils : List Value := List.replicate 200 (.pointer none)
def zerJ : List Value := [iv 0, .slice none 0 0, .slice none 0 0, iv 0, iv 0, iv 0, iv 0, iv 0, iv 0, iv 0, .slice none 0 0]
def zer220 : List Value := zerJ ++ (iv 0 :: (nils ++ [.slice none 0 0, .slice none 0 0, .slice none 0 0, iv 0, iv 0, iv 0, iv 0, .bool false]))
theorem L16_eq : L16 =
 .seq (.region [⟨some 3, .box 29 11 (.tmp 0), none⟩,
  ⟨some 6, .new 37 7 [.slice none 0 0, .slice none 0 0, .slice none 0 0, .int .i64 0, .int .i64 0, .int .i64 0, .int .i64 0], none⟩,
  ⟨some 7, .move (.const (.int .i64 0)), none⟩,
  ⟨some 8, .move (.const (.int .i64 0)), none⟩])
 (.seq (.seq (.region [⟨some 13, .load true 11 (.tmp 3), none⟩,
  ⟨some 14, .call 23 [.tmp 13], none⟩,
  ⟨some 9, .move (.tmp 14), none⟩])
 (.seq (.region [⟨some 15, .move (.tmp 9), none⟩,
  ⟨some 16, .bin .neq (.tmp 15) (.const (.int .i64 0)), none⟩])
 (.cond (.tmp 16) (.seq (.region [⟨some 17, .build [.slice none 0 0, .slice none 0 0, .slice none 0 0, .int .i64 0, .int .i64 0, .int .i64 0, .int .i64 0] [], none⟩,
  ⟨some 18, .move (.tmp 9), none⟩,
  ⟨none, .store 7 (.tmp 6) (.tmp 17), none⟩,
  ⟨some 7, .move (.const (.int .i64 0)), none⟩,
  ⟨some 8, .move (.tmp 18), none⟩])
 (.ret))
 (.skip))))
 (.seq (.region [⟨some 19, .load true 11 (.tmp 3), none⟩,
  ⟨some 20, .move (.tmp 2), none⟩,
  ⟨some 21, .build zer220 [(0, 11, .tmp 19), (219, 1, .tmp 20)], none⟩,
  ⟨some 22, .box 81 220 (.tmp 21), none⟩,
  ⟨some 10, .move (.tmp 22), none⟩])
 (.seq (.region [⟨some 24, .move (.tmp 10), none⟩,
  ⟨some 25, .off 4 (.tmp 3), none⟩,
  ⟨some 26, .load true 6 (.tmp 25), none⟩,
  ⟨some 27, .call 20 [.tmp 26], none⟩,
  ⟨some 23, .move (.tmp 27), none⟩,
  ⟨some 28, .extract (.tmp 23) 0, none⟩,
  ⟨some 29, .extract (.tmp 23) 1, none⟩,
  ⟨some 30, .nilCheck (.tmp 24), none⟩,
  ⟨some 31, .off 11 (.tmp 30), none⟩,
  ⟨none, .store 1 (.tmp 31) (.tmp 28), none⟩])
 (.seq (.region [⟨some 33, .move (.tmp 10), none⟩,
  ⟨some 34, .load true 11 (.tmp 3), none⟩,
  ⟨some 35, .call 19 [.tmp 34], none⟩,
  ⟨some 32, .move (.tmp 35), none⟩,
  ⟨some 36, .extract (.tmp 32) 0, none⟩,
  ⟨some 37, .extract (.tmp 32) 1, none⟩,
  ⟨some 38, .nilCheck (.tmp 33), none⟩,
  ⟨some 39, .off 212 (.tmp 38), none⟩,
  ⟨none, .store 7 (.tmp 39) (.tmp 36), none⟩])
 (.seq (.seq (.region [⟨some 40, .move (.tmp 1), none⟩,
  ⟨some 41, .len (.tmp 40), none⟩,
  ⟨some 42, .move (.const (.int .i64 0)), none⟩])
 (.block 0 (.loop L16_1)))
 (.seq (.region [⟨some 54, .move (.tmp 10), none⟩,
  ⟨some 55, .nilCheck (.tmp 54), none⟩,
  ⟨some 56, .off 212 (.tmp 55), none⟩,
  ⟨some 57, .load true 7 (.tmp 56), none⟩,
  ⟨none, .store 7 (.tmp 6) (.tmp 57), none⟩,
  ⟨some 7, .move (.const (.int .i64 0)), none⟩,
  ⟨some 8, .move (.const (.int .i64 0)), none⟩])
 (.ret))))))) := by kernel_rfl
/-- A state of which nothing is told. -/
def S00 : BS := ⟨[], [], [], 0, 0, 0, 0, List.replicate 200 none⟩
theorem zer_len : zer220.length = 220 := by kernel_rfl
theorem fill220 (J : Jb) (wh : Bool) : fillA zer220 [(0, 11, .agg (jobC J).toArray), (219, 1, .bool wh)] = some (bkC J 0 nils (.slice none 0 0) (.slice none 0 0) (.slice none 0 0) S00 wh) := by
  have hn : nils.length = 200 := List.length_replicate
  have X : zer220.take 0 ++ (Value.agg (jobC J).toArray).cells.toList ++ zer220.drop (0 + 11) = (jobC J ++ (iv 0 :: (nils ++ [.slice none 0 0, .slice none 0 0, .slice none 0 0, iv 0, iv 0, iv 0, iv 0]))) ++ [.bool false] := rfl
  have pre : (jobC J ++ (iv 0 :: (nils ++ [.slice none 0 0, .slice none 0 0, .slice none 0 0, iv 0, iv 0, iv 0, iv 0]))).length = 219 := by simp [hn]
  have fin : (jobC J ++ (iv 0 :: (nils ++ [.slice none 0 0, .slice none 0 0, .slice none 0 0, iv 0, iv 0, iv 0, iv 0]))) ++ [.bool wh] = bkC J 0 nils (.slice none 0 0) (.slice none 0 0) (.slice none 0 0) S00 wh := by simp [bkC, S00]
  rw [fillA_cons, if_pos ⟨rfl, rfl, by rw [zer_len]; decide⟩, X]
  generalize hP : (jobC J ++ (iv 0 :: (nils ++ [.slice none 0 0, .slice none 0 0, .slice none 0 0, iv 0, iv 0, iv 0, iv 0]))) = P at *
  rw [fillA_cons, if_pos ⟨rfl, rfl, by simp [pre]⟩, fillA_nil, ← fin]
  congr 1
  rw [List.take_append_of_le_length (by omega), List.take_of_length_le (by omega), List.drop_eq_nil_of_le (by simp [pre]), List.append_nil]
  rfl
/-- What look answers. -/
def LookQ (H : Heap) (r : Nat × Int × Option BS) (o : Out) (H' : Heap) : Prop :=
  On H H' ∧ ∃ x0 x1 x2 a b c d, o = .ret (.tuple #[.agg #[x0, x1, x2, iv a, iv b, iv c, iv d], iv r.1, iv r.2.1]) ∧ (∀ S, r.2.2 = some S → a = S.fa ∧ b = S.fo ∧ c = S.fv ∧ d = S.count ∧ Own H' 2 1 S.mem.length (ci S.mem) x0 ∧ Own H' 2 1 S.outs.length (ci S.outs) x1 ∧ Own H' 2 1 S.reds.length (ci S.reds) x2 ∧ ∀ b, (blkOf x0 = some b ∨ blkOf x1 = some b ∨ blkOf x2 = some b) → H.next ≤ b) ∧ (r.2.2 = none → x0 = .slice none 0 0 ∧ x1 = .slice none 0 0 ∧ x2 = .slice none 0 0 ∧ a = 0 ∧ b = 0 ∧ c = 0 ∧ d = 0)
def InvLk (wh : Bool) (H0 : Heap) (p : Nat) (J : Jb) (n : Int) (y : Value) (l : List Ev) (t6 : Value) (k : Nat) (t : Tm) (H1 : Heap) : Prop :=
  ∃ (i : Nat) (S : BS) (ow : Nat → Nat) (pt : List Value) (xm xo xr : Value), i + k = l.length ∧ t 6 = t6 ∧ t 10 = ptr p ∧ t 40 = y ∧ t 41 = iv l.length ∧ t 42 = iv i ∧ BK H0 H1 p ow J n wh S pt xm xo xr ∧ SOk J i S ∧ runE wh J n S (l.drop i) i = runE wh J n (beginS J) l 0
theorem roundLk {wh : Bool} {H H0 : Heap} (hw0 : H0.WF) {p : Nat} {J : Jb} {n : Int} (hn : n ≤ 200) (hnc : n = (cntP J.S).1) (ok : JbOk H0 J) (hv : validE J = 0) {y : Value} {l : List Ev} (hy : Rws H0 6 y (l.map evC)) (hl : l.length ≤ 300) {r6 : Nat} (hr6 : H.next ≤ r6) (on0 : On H H0) {Z : List Value} (vr6 : Vr H0 r6 37 7 Z) (hZ : Z.length = 7)
    {Q0 : Tm → Heap → Prop} (hE : ∀ t' H2, InvLk wh H0 p J n y l (ptr r6) 0 t' H2 → Q0 t' (rdy H2)) (k : Nat) (t : Tm) (H1 : Heap) (h : InvLk wh H0 p J n y l (ptr r6) k t H1) :
    wpA Try.prog L16_1 (thenA (fun t' H' => ∃ m, m < k ∧ InvLk wh H0 p J n y l (ptr r6) m t' H') (blockA 0 (thenA Q0 (EndA (fun v H' => LookQ H (runE wh J n (beginS J) l 0) (.ret v) H') [.cell 6 true 7, .tmp 7, .tmp 8])))) t (rdy H1) := by
  obtain ⟨i, S, ow, pt, xm, xo, xr, hik, t6, t10, t40, t41, t42, B, sok, hrun⟩ := h
  cases k with
  | zero =>
    have ei : i = l.length := by omega
    simp [L16_1, t41, t42, ei]
    exact hE _ _ ⟨i, S, ow, pt, xm, xo, xr, hik, by simp [t6], by simp [t10], by simp [t40], by simp [t41], by simp [t42], B, sok, hrun⟩
  | succ k =>
    have hi : i < l.length := by omega
    have hiI : (i : Int) < (l.length : Int) := by omega
    have e4 : IntKind.i64.wrap ((i : Int) + 1) = ((i + 1 : Nat) : Int) := by rw [w64 _ (by omega)]; omega
    obtain ⟨x, hx⟩ : ∃ x, x = l[i] := ⟨_, rfl⟩
    have hi2 : i < (l.map evC).length := by simpa using hi
    obtain ⟨b, off, c, hyb, _, ldx, _⟩ := (Rws.keep hw0 B.on.base B.on.keep hy).at hi2
    simp only [List.getElem_map, List.length_map, ← hx] at ldx hyb
    have t40' := t40.trans hyb
    have w1 := B.on.wf
    have st := new_storeA w1 58 6 [iv 0, iv 0, iv 0, iv 0, iv 0, iv 0] (evC x) rfl rfl (by decide)
    obtain ⟨s, hs⟩ : ∃ s, s = H1.next := ⟨_, rfl⟩
    obtain ⟨H2, hH2⟩ : ∃ H2, H2 = H1.new 58 6 (evC x) := ⟨_, rfl⟩
    have on2 : On H1 H2 := by rw [hH2]; exact (On.refl w1).new _ _ _
    have VE : Vr H2 s 58 6 (evC x) := by rw [hH2, hs]; exact Vr.mk' w1 _ _ _
    have ldE := VE.loadA (m := 6) rfl
    rw [← hH2, ← hs] at st
    have B2 := B.grow on2 (ow' := ow) (fun _ _ => rfl)
    have eN := event_N hw0 B2 ok sok (by omega) hv hn hnc x
    rw [List.drop_eq_getElem_cons hi, ← hx, runE] at hrun
    simp [L16_1, t41, t42, hi, hiI, t40', ldx, st, ← hs, t10, ldE]
    refine goA_of on2.wf eN ?_
    rintro o H3 ⟨on3, hQ⟩ w3 b3 n3
    rcases hQ with ⟨hS, rfl⟩ | ⟨S', ow', pt', xm', xo', xr', hS, rfl, B'⟩
    · rw [hS] at hrun
      have v6 := vr6.on hw0 on3
      have s6 := v6.storeA (m := 7) (by decide) [.slice none 0 0, .slice none 0 0, .slice none 0 0, iv 0, iv 0, iv 0, iv 0] rfl (by rw [hZ])
      obtain ⟨H4, hH4⟩ : ∃ H4, H4 = H3.put r6 [.slice none 0 0, .slice none 0 0, .slice none 0 0, iv 0, iv 0, iv 0, iv 0] := ⟨_, rfl⟩
      have l6 : H4.loadN ⟨r6, 0, none⟩ 0 7 = some [.slice none 0 0, .slice none 0 0, .slice none 0 0, iv 0, iv 0, iv 0, iv 0] := by rw [hH4]; exact (v6.put _).loadA rfl
      rw [← hH4] at s6
      simp [t6, s6, l6]
      refine ⟨by rw [hH4]; exact (on0.trans on3).put hr6 _, _, _, _, _, _, _, _, by rw [← hrun], fun S h => ?_, fun _ => ⟨rfl, rfl, rfl, rfl, rfl, rfl, rfl⟩⟩
      rw [← hrun] at h
      cases h
    · rw [hS] at hrun
      simp [t42, e4]
      exact ⟨k, by omega, i + 1, S', ow', pt', xm', xo', xr', by omega, by simp [t6], by simp [t10], by simp [t40, ← hyb], by simp [t41], by simp, B', step_ok sok hS, hrun⟩
theorem cnt_le (S : Shp) : (cntP S).1 ≤ 200 := by
  unfold cntP
  split
  · split
    · decide
    · split
      · decide
      · simp only; omega
  · split
    · split
      · decide
      · simp only; omega
    · decide
theorem look_N {wh : Bool} {H : Heap} (hw : H.WF) {J : Jb} (ok : JbOk H J) {y : Value} {l : List Ev} (hy : Rws H 6 y (l.map evC)) (hl : l.length ≤ 300) : TE Try.prog 16 [.agg (jobC J).toArray, y, .bool wh] H (LookQ H (lookV wh J l)) := by
  refine TE_by hm light16 ?_
  rw [L16_eq]
  obtain ⟨HA, hHA⟩ : ∃ HA, HA = H.new 29 11 (jobC J) := ⟨_, rfl⟩
  have onA : On H HA := by rw [hHA]; exact (On.refl hw).new _ _ _
  have vA : Vr HA H.next 29 11 (jobC J) := by rw [hHA]; exact Vr.mk' hw _ _ _
  have nA : HA.next = H.next + 1 := by rw [hHA]; rfl
  obtain ⟨HB, hHB⟩ : ∃ HB, HB = HA.new 37 7 [.slice none 0 0, .slice none 0 0, .slice none 0 0, iv 0, iv 0, iv 0, iv 0] := ⟨_, rfl⟩
  have onB : On HA HB := by rw [hHB]; exact (On.refl onA.wf).new _ _ _
  have vB : Vr HB (H.next + 1) 37 7 [.slice none 0 0, .slice none 0 0, .slice none 0 0, iv 0, iv 0, iv 0, iv 0] := by rw [hHB, ← nA]; exact Vr.mk' onA.wf _ _ _
  have nB : HB.next = H.next + 2 := by rw [hHB]; simp [nA]
  have vJ := vA.on onA.wf onB
  have lA := (JL.of vJ).lA
  have onHB := onA.trans onB
  have wB := onHB.wf
  have okB := ok.on hw onHB
  have vT := valid_T wB okB
  have hHA2 : H.new 29 11 [iv J.words, J.xc, J.xr, iv J.fuel, iv J.S.kind, iv J.S.lo, iv J.S.hi, iv J.S.step, iv J.S.items, iv J.S.stages, J.xk] = HA := hHA.symm
  obtain ⟨R, hR⟩ : ∃ R, R = lookV wh J l := ⟨_, rfl⟩
  rw [← hR]
  unfold lookV at hR
  by_cases hv : validE J = 0
  case neg =>
    rw [if_pos hv] at hR
    obtain ⟨E, hE⟩ : ∃ E, E = validE J := ⟨_, rfl⟩
    rw [← hE] at vT hv hR
    have e1 : (E != 0) = true := bne_iff_ne.2 hv
    have sB := vB.storeA (m := 7) (by decide) [.slice none 0 0, .slice none 0 0, .slice none 0 0, iv 0, iv 0, iv 0, iv 0] rfl rfl
    rw [vB.same] at sB
    have lB := vB.loadA (m := 7) rfl
    simp [hHA2, ← hHB, nA, lA]
    refine goT_of vT ?_
    simp [e1, sB, lB]
    exact ⟨onHB, _, _, _, _, _, _, _, by rw [hR]; rfl, fun S h => (by rw [hR] at h; cases h), fun _ => ⟨rfl, rfl, rfl, rfl, rfl, rfl, rfl⟩⟩
  case pos =>
  rw [if_neg (by simpa using hv)] at hR
  rw [hv] at vT
  obtain ⟨n, hn⟩ : ∃ n, n = (cntP J.S).1 := ⟨_, rfl⟩
  have n200 : n ≤ 200 := by rw [hn]; exact cnt_le J.S
  rw [← hn] at hR
  have w1 : 1 ≤ J.words := by
    unfold validE at hv
    split at hv
    · rename_i h; exact absurd hv h
    · rename_i h
      simp only [ne_eq, Decidable.not_not] at h
      unfold ofE at h
      split at h
      · cases h
      · omega
  -- the book
  obtain ⟨CS, hCS⟩ : ∃ CS, CS = bkC J 0 nils (.slice none 0 0) (.slice none 0 0) (.slice none 0 0) S00 wh := ⟨_, rfl⟩
  have fl := fill220 J wh
  rw [← hCS] at fl
  have nl : nils.length = 200 := List.length_replicate
  have csl : CS.length = 220 := by rw [hCS]; exact bkC_len _ _ _ _ _ _ _ _ nl
  obtain ⟨p, hp⟩ : ∃ p, p = HB.next := ⟨_, rfl⟩
  obtain ⟨HC, hHC⟩ : ∃ HC, HC = HB.new 81 220 CS := ⟨_, rfl⟩
  have onC : On HB HC := by rw [hHC]; exact (On.refl wB).new _ _ _
  have vC : Vr HC p 81 220 CS := by rw [hHC, hp]; exact Vr.mk' wB _ _ _
  have lSC := (JL.of (vJ.on wB onC)).lS
  have cT := count_T (H := HC) onC.wf J.S ok.S
  rw [← hn] at cT
  have sC : HC.store ⟨p, 11, none⟩ (iv n) = some (HC.put p (bkC J n nils (.slice none 0 0) (.slice none 0 0) (.slice none 0 0) S00 wh)) := by
    rw [vC.store 11 (iv n) (by omega), hCS]
    rfl
  obtain ⟨HD, hHD⟩ : ∃ HD, HD = HC.put p (bkC J n nils (.slice none 0 0) (.slice none 0 0) (.slice none 0 0) S00 wh) := ⟨_, rfl⟩
  have onD : On HB HD := by rw [hHD]; exact onC.put (by omega) _
  have vD : Vr HD p 81 220 (bkC J n nils (.slice none 0 0) (.slice none 0 0) (.slice none 0 0) S00 wh) := by rw [hHD]; exact vC.put _
  rw [← hHD] at sC
  have lAD := (JL.of (vJ.on wB onD)).lA
  have bN := begin_N onD.wf (okB.on wB onD) hv
  simp [-fillA_cons, hHA2, ← hHB, nA, lA]
  refine goT_of vT ?_
  simp [-fillA_cons, lA, fl, csl, ← hp, ← hHC, lSC]
  refine goT_of cT ?_
  simp [sC, lAD]
  refine goA_of onD.wf bN ?_
  rintro o HE ⟨onE, xm, xr, m, rfl, om, orr, nm, nr, hm⟩ wE bE nE
  have vE : Vr HE p 81 220 (bkC J n nils (.slice none 0 0) (.slice none 0 0) (.slice none 0 0) S00 wh) := vD.on onD.wf onE
  obtain ⟨HF, hHF⟩ : ∃ HF, HF = HE.put p (bkC J n nils xm (.slice none 0 0) xr (beginS J) wh) := ⟨_, rfl⟩
  have sF : sStore HE 7 (.pointer (some ⟨p, 212, none⟩)) (.agg #[xm, .slice none 0 0, xr, iv 0, iv 0, iv 0, iv 0]) = some HF := by
    have e0 : bkC J n nils (.slice none 0 0) (.slice none 0 0) (.slice none 0 0) S00 wh = (jobC J ++ (iv n :: nils)) ++ ([.slice none 0 0, .slice none 0 0, .slice none 0 0, iv 0, iv 0, iv 0, iv 0] ++ [.bool wh]) := by simp [bkC, S00]
    have e1 : bkC J n nils xm (.slice none 0 0) xr (beginS J) wh = (jobC J ++ (iv n :: nils)) ++ ([xm, .slice none 0 0, xr, iv 0, iv 0, iv 0, iv 0] ++ [.bool wh]) := by simp [bkC, beginS]
    have pre : (jobC J ++ (iv n :: nils)).length = 212 := by simp [nl]
    have v := vE
    rw [e0] at v
    have st := v.storeMid (new := [xm, .slice none 0 0, xr, iv 0, iv 0, iv 0, iv 0]) rfl (by simp)
    rw [pre, ← e1, ← hHF] at st
    exact st
  have onBE := onD.trans onE
  have nBp : HB.next ≤ p := by omega
  have bpE := wE.lt vE.bq
  have nCD : HD.next = p + 1 := by rw [hHD]; simp [hHC, hp]
  obtain ⟨ow, how⟩ : ∃ o : Nat → Nat, o = fun b => if b < HB.next then 9999 else if b = p then 2000 else if b < m then 2001 else 2003 := ⟨_, rfl⟩
  have B : BK HB HF p ow J n wh (beginS J) nils xm (.slice none 0 0) xr := by
    refine ⟨by rw [hHF]; exact onBE.put nBp _, by rw [hHF]; exact vE.put _, by rw [how]; simp [show ¬ p < HB.next by omega], fun b hb => by rw [how]; simp [hb], ?_, Own.nil _ _ _, ?_, fun b hb => ?_, fun b hb => by (cases hb), fun b hb => ?_, nl, List.length_replicate, fun i hi => .inl ⟨?_, ?_⟩⟩
    · exact om.keep (by rw [hHF]; simp) (fun b hb => by have := nm b hb; rw [hHF]; simp [show b ≠ p by omega])
    · have h : Own HF 2 1 J.reds.length (ci (J.reds.map Prod.snd)) xr := orr.keep (by rw [hHF]; simp) (fun b hb => by have := nr b hb; rw [hHF]; simp [show b ≠ p by omega])
      simpa [beginS] using h
    · have := nm b hb
      have := onD.next
      rw [how]; simp only; rw [if_neg (by omega), if_neg (by omega), if_pos (by omega)]
    · have := nr b hb
      have := onD.next
      rw [how]; simp only; rw [if_neg (by omega), if_neg (by omega), if_neg (by omega)]
    · show (List.replicate 200 (none : Option Tr))[i]? = some none
      rw [List.getElem?_replicate, if_pos hi]
    · show (List.replicate 200 (Value.pointer none))[i]? = some (.pointer none)
      rw [List.getElem?_replicate, if_pos hi]
  have hyB : Rws HB 6 y (l.map evC) := Rws.keep hw onHB.base onHB.keep hy
  obtain ⟨ay, cy, hye⟩ := hy.len
  rw [List.length_map] at hye
  simp [sF]
  rw [hye]
  simp
  rw [← hye]
  refine loop_at (InvLk wh HB p J n y l (ptr (H.next + 1))) l.length ?_ ?_
  · exact ⟨0, beginS J, ow, nils, xm, .slice none 0 0, xr, by omega, by simp, by simp, by simp [hye], by simp, by simp, B, begin_ok w1, by simp⟩
  rw [hR]
  refine roundLk wB n200 hn okB hv hyB hl (by omega) onHB vB rfl ?_
  rintro t' H2 ⟨i, S, ow', pt, xm', xo', xr', hik, t6, t10, t40, t41, t42, B', sok, hrun⟩
  have ei : i = l.length := by omega
  rw [ei, List.drop_length] at hrun
  have now := (BL.of B'.vp B'.pl).now
  have v6 := vB.on wB B'.on
  have s6 := v6.storeA (m := 7) (by decide) [xm', xo', xr', iv S.fa, iv S.fo, iv S.fv, iv S.count] rfl rfl
  obtain ⟨H3, hH3⟩ : ∃ H3, H3 = H2.put (H.next + 1) [xm', xo', xr', iv S.fa, iv S.fo, iv S.fv, iv S.count] := ⟨_, rfl⟩
  have l6 : H3.loadN ⟨H.next + 1, 0, none⟩ 0 7 = some [xm', xo', xr', iv S.fa, iv S.fo, iv S.fv, iv S.count] := by rw [hH3]; exact (v6.put _).loadA rfl
  rw [← hH3] at s6
  simp [t10, now, t6, s6, l6]
  have w2 := B'.on.wf
  have ne : ∀ b, b < HB.next → ow' b = 9999 := B'.old
  refine ⟨by rw [hH3]; exact (onHB.trans B'.on).put (by omega) _, _, _, _, _, _, _, _, by rw [← hrun]; rfl, fun S2 h => ?_, fun h => (by rw [← hrun] at h; cases h)⟩
  rw [← hrun] at h
  simp only [runE, Option.some.injEq] at h
  subst h
  have nx : ∀ b, ow' b ≠ 9999 → b ≠ H.next + 1 := fun b h1 h2 => h1 (ne b (by omega))
  have ng : ∀ b, ow' b ≠ 9999 → H.next ≤ b := fun b h1 => by
    by_cases h2 : b < HB.next
    · exact absurd (ne b h2) h1
    · omega
  refine ⟨rfl, rfl, rfl, rfl, B'.m.keep (by rw [hH3]; simp) (fun b hb => ?_), B'.o.keep (by rw [hH3]; simp) (fun b hb => ?_), B'.r.keep (by rw [hH3]; simp) (fun b hb => ?_), fun b hb => ?_⟩
  · have := nx b (by have := B'.lm b hb; omega); rw [hH3]; simp [this]
  · have := nx b (by have := B'.lo b hb; omega); rw [hH3]; simp [this]
  · have := nx b (by have := B'.lr b hb; omega); rw [hH3]; simp [this]
  · rcases hb with h | h | h
    · exact ng b (by have := B'.lm b h; omega)
    · exact ng b (by have := B'.lo b h; omega)
    · exact ng b (by have := B'.lr b h; omega)
end Go.Proofs.Ytjkfghekdcalhaa
