/-
  Chapter 27: trace.Judge; what fold tells, plainly. Chapter 27: fold.After. Chapter 27: fold.Upto and fold.Run of a job that may be.
-/
import Derived.Test.YtjkfghekdcalhaaSeatKA
namespace Go.Proofs.Ytjkfghekdcalhaa
open Go.Ot Go.RowKit
open R14 (Twos ci joinV addN ontoN HP add_T may)
set_option linter.unusedSimpArgs false
set_option linter.unusedVariables false
theorem judge_E {H : Heap} (hw : H.WF) {J : Jb} (ok : JbOk H J) {y : Value} {l : List Ev} (hy : Rws H 6 y (l.map evC)) (hl : l.length ≤ 300) : TE Try.prog 9 [.agg (jobC J).toArray, y] H (LookQ H (lookV true J l)) := by
  refine TE_by hm light9 ?_
  obtain ⟨HA, hHA⟩ : ∃ HA, HA = H.new 29 11 (jobC J) := ⟨_, rfl⟩
  have onA : On H HA := by rw [hHA]; exact (On.refl hw).new _ _ _
  have vA : Vr HA H.next 29 11 (jobC J) := by rw [hHA]; exact Vr.mk' hw _ _ _
  have nA : HA.next = H.next + 1 := by rw [hHA]; rfl
  obtain ⟨HB, hHB⟩ : ∃ HB, HB = HA.new 37 7 [.slice none 0 0, .slice none 0 0, .slice none 0 0, iv 0, iv 0, iv 0, iv 0] := ⟨_, rfl⟩
  have onB : On HA HB := by rw [hHB]; exact (On.refl onA.wf).new _ _ _
  have vB : Vr HB (H.next + 1) 37 7 [.slice none 0 0, .slice none 0 0, .slice none 0 0, iv 0, iv 0, iv 0, iv 0] := by rw [hHB, ← nA]; exact Vr.mk' onA.wf _ _ _
  have nB : HB.next = H.next + 2 := by rw [hHB]; simp [nA]
  have lA := (JL.of (vA.on onA.wf onB)).lA
  have onHB := onA.trans onB
  have wB := onHB.wf
  have hHA2 : H.new 29 11 [iv J.words, J.xc, J.xr, iv J.fuel, iv J.S.kind, iv J.S.lo, iv J.S.hi, iv J.S.step, iv J.S.items, iv J.S.stages, J.xk] = HA := hHA.symm
  have kE := look_N (wh := true) wB (ok.on hw onHB) (Rws.keep hw onHB.base onHB.keep hy) hl
  simp [L9, hHA2, ← hHB, nA, lA]
  refine goA_of wB kE ?_
  rintro o H1 ⟨on1, x0, x1, x2, a, b, c, d, rfl, hS, hN⟩ w1 b1 n1
  have v1 := vB.on wB on1
  have s1 := v1.storeA (m := 7) (by decide) [x0, x1, x2, iv a, iv b, iv c, iv d] rfl rfl
  obtain ⟨H2, hH2⟩ : ∃ H2, H2 = H1.put (H.next + 1) [x0, x1, x2, iv a, iv b, iv c, iv d] := ⟨_, rfl⟩
  have l2 : H2.loadN ⟨H.next + 1, 0, none⟩ 0 7 = some [x0, x1, x2, iv a, iv b, iv c, iv d] := by rw [hH2]; exact (v1.put _).loadA rfl
  rw [← hH2] at s1
  simp [s1, l2]
  refine ⟨by rw [hH2]; exact (onHB.trans on1).put (by omega) _, _, _, _, _, _, _, _, rfl, fun S h => ?_, hN⟩
  obtain ⟨e1, e2, e3, e4, o0, o1, o2, nb⟩ := hS S h
  have kp : ∀ {ety sz m : Nat} {cs : List Value} {y : Value} (h : Own H1 ety sz m cs y), (∀ b, blkOf y = some b → HB.next ≤ b) → Own H2 ety sz m cs y := fun h h1 => h.keep (by rw [hH2]; simp) (fun b hb => by have := h1 b hb; rw [hH2]; simp [show b ≠ H.next + 1 by omega])
  exact ⟨e1, e2, e3, e4, kp o0 (fun b hb => nb b (.inl hb)), kp o1 (fun b hb => nb b (.inr (.inl hb))), kp o2 (fun b hb => nb b (.inr (.inr hb))), fun b hb => by have := nb b hb; omega⟩
/-- What can be seen behind a task. -/
def afterV (J : Jb) (S : BS) (age : Int) (V : Ms × Wl) : BS :=
  if V.1.over ≠ 1 then { S with fa := age, fo := V.1.over, fv := V.1.value }
  else { S with mem := V.2.mem, outs := S.outs ++ V.2.outs, reds := ontoN (J.reds.map Prod.fst) S.reds (addsV (J.reds.map Prod.fst) V.2.intos) J.reds.length, count := S.count + 1 }
/-- What can be seen behind so many tasks more, or behind an error. -/
def upR (J : Jb) : Nat → Nat → BS → BS
  | 0, _, S => S
  | k + 1, age, S => if (afterV J S age (taskV J age S.mem)).fo ≠ 0 then afterV J S age (taskV J age S.mem) else upR J k (age + 1) (afterV J S age (taskV J age S.mem))
theorem run_outs (code : List I8.In) (W F : Int) : ∀ (k : Nat) (s : Ms × Wl), (runM code W F k s).2.outs.length ≤ s.2.outs.length + k ∧ (runM code W F k s).2.intos.length ≤ s.2.intos.length + k
  | 0, s => ⟨Nat.le_refl _, Nat.le_refl _⟩
  | k + 1, s => by
    rw [runM]
    split
    · exact ⟨by omega, by omega⟩
    · obtain ⟨h1, h2⟩ := run_outs code W F k (tick code W F s)
      have h3 := give_rows s.2 (wantV code W F s.1).1 (wantV code W F s.1).2.1 (wantV code W F s.1).2.2
      have e2 : (tick code W F s).2 = (giveV s.2 (wantV code W F s.1).1 (wantV code W F s.1).2.1 (wantV code W F s.1).2.2).1 := rfl
      rw [e2] at h1 h2
      omega
theorem task_rows {J : Jb} (jv : JV J) (age : Int) (mem : List Int) : (taskV J age mem).2.mem.length = mem.length ∧ (taskV J age mem).2.outs.length ≤ 4001 ∧ (taskV J age mem).2.intos.length ≤ 4001 := by
  unfold taskV
  have h := run_outs (J.codes.getD (atV J.S age).2.1.toNat []) mem.length J.fuel (J.fuel.toNat + 1) (startM age (atV J.S age).1 (atV J.S age).2.1, ⟨mem, [], []⟩)
  have := jv.f
  simp only [List.length_nil] at h
  exact ⟨run_mem _ _ _ _ _, by omega, by omega⟩
/-- What stands of what can be seen. -/
structure VOk (J : Jb) (k : Nat) (S : BS) : Prop where
  mem : (S.mem.length : Int) = J.words
  outs : S.outs.length ≤ k * 4001
  reds : S.reds.length = J.reds.length
  cnt : S.count ≤ k
theorem VOk.after {J : Jb} (jv : JV J) {k : Nat} {S : BS} (h : VOk J k S) (age : Int) : VOk J (k + 1) (afterV J S age (taskV J age S.mem)) := by
  obtain ⟨r1, r2, r3⟩ := task_rows jv age S.mem
  have h1 := h.mem; have h2 := h.outs; have h3 := h.reds; have h4 := h.cnt
  generalize taskV J age S.mem = V at r1 r2 r3 ⊢
  unfold afterV
  split
  · exact ⟨h1, by rw [Nat.succ_mul]; exact Nat.le_trans h2 (Nat.le_add_right _ _), h3, Nat.le_succ_of_le h4⟩
  · exact ⟨by simp only [r1]; exact h1, by rw [Nat.succ_mul]; simp only [List.length_append]; exact Nat.add_le_add h2 r2, by simp [R14.ontoN_len], Nat.succ_le_succ h4⟩
theorem begin_vok {J : Jb} (hw : 1 ≤ J.words) : VOk J 0 (beginS J) := by
  refine ⟨?_, by simp [beginS], List.length_map _, Nat.le_refl _⟩
  simp only [beginS, memV_len]; omega
end Go.Proofs.Ytjkfghekdcalhaa
namespace Go.Proofs.Ytjkfghekdcalhaa
open Go.Ot Go.RowKit
open R14 (Twos ci joinV addN ontoN HP add_T may)
set_option linter.unusedSimpArgs false
set_option linter.unusedVariables false
def InvI2 (HB : Heap) (lo hi ph : Nat) (ops now : List Int) (xo xn yi : Value) (l : List (Int × Int)) (t0 : Tm) (k : Nat) (t : Tm) (H1 : Heap) : Prop :=
  ∃ (i : Nat) (many : Int), i + k = l.length ∧ t 5 = t0 5 ∧ t 7 = t0 7 ∧ t 8 = t0 8 ∧ t 9 = ptr ph ∧ t 44 = yi ∧ t 45 = iv l.length ∧ t 46 = iv i ∧ H1.WF ∧ H1.base = HB.base ∧ HB.next ≤ H1.next ∧ (∀ b, b < HB.next → (b < lo ∨ hi ≤ b) → H1.blk b = HB.blk b) ∧ 0 ≤ many ∧ many ≤ i ∧
    HP H1 lo hi ph ops ((l.take i).foldl (fun now c => addN ops now c.1 c.2) now) many xo xn
theorem add_loop2 {HB : Heap} (wB : HB.WF) {lo hi ph : Nat} {ops now : List Int} {xo xn : Value} (hp : HP HB lo hi ph ops now 0 xo xn) (hlen : now.length = ops.length) (hol : ops.length ≤ 1000) {yi : Value} {l : List (Int × Int)} (hy : Own HB 97 2 l.length (c2 l) yi)
    (hyi : ∀ b, blkOf yi = some b → b < lo ∨ hi ≤ b) (hhi : hi ≤ HB.next) (hl : l.length ≤ 100000) {Q : Post} {t : Tm} (t10 : t 9 = ptr ph) (t94 : t 44 = yi) (t95 : t 45 = iv l.length) (t96 : t 46 = iv 0)
    (hE : ∀ (t' : Tm) (H1 : Heap) (many : Int), t' 5 = t 5 → t' 7 = t 7 → t' 8 = t 8 → t' 9 = t 9 → H1.WF → H1.base = HB.base → HB.next ≤ H1.next → (∀ b, b < HB.next → (b < lo ∨ hi ≤ b) → H1.blk b = HB.blk b) →
      HP H1 lo hi ph ops (l.foldl (fun now c => addN ops now c.1 c.2) now) many xo xn → Q (.exit 0) t' (rdy H1)) : wpA Try.prog (.loop L22_1) Q t (rdy HB) := by
  refine loop_at (InvI2 HB lo hi ph ops now xo xn yi l t) l.length ?_ ?_
  · exact ⟨0, 0, by omega, rfl, rfl, rfl, t10, t94, t95, t96, wB, rfl, Nat.le_refl _, fun _ _ _ => rfl, by omega, by simp, by simpa using hp⟩
  rintro k t1 H1 ⟨i, many, hik, u0, u2, u4, u10, u94, u95, u96, w1, b1, n1, k1, m0, mi, h1⟩
  cases k with
  | zero =>
    have ei : i = l.length := by omega
    rw [ei, List.take_length] at h1
    simp [L22_1, u95, u96, ei]
    exact hE _ _ many (by simp [u0]) (by simp [u2]) (by simp [u4]) (by simp [u10, t10]) w1 b1 n1 k1 h1
  | succ k =>
    have hi' : i < l.length := by omega
    have hiI : (i : Int) < (l.length : Int) := by omega
    have e4 : IntKind.i64.wrap ((i : Int) + 1) = ((i + 1 : Nat) : Int) := by rw [w64 _ (by omega)]; omega
    obtain ⟨e, he⟩ : ∃ e, e = l[i] := ⟨_, rfl⟩
    have hi2 : i < (rows2 l).length := by simpa [rows2] using hi'
    have hy1 : Own H1 97 2 l.length (c2 l) yi := hy.keep (B_eq b1) (fun b hb => k1 b (hy.lt wB hb) (hyi b hb))
    obtain ⟨b, off, c, hyb, _, ldx, _⟩ := (own_rows2 hy1).at hi2
    have er : (rows2 l)[i] = [iv e.1, iv e.2] := by simp [rows2, he]
    have ln2 : (rows2 l).length = l.length := by simp [rows2]
    rw [er] at ldx
    rw [ln2] at hyb
    have u94' := u94.trans hyb
    have st := new_storeA w1 97 2 [iv 0, iv 0] [iv e.1, iv e.2] rfl rfl (by decide)
    have VE : Vr (H1.new 97 2 [iv e.1, iv e.2]) H1.next 97 2 [iv e.1, iv e.2] := Vr.mk' w1 _ _ _
    have on2 : On H1 (H1.new 97 2 [iv e.1, iv e.2]) := (On.refl w1).new _ _ _
    obtain ⟨H2, hH2⟩ : ∃ H2, H2 = H1.new 97 2 [iv e.1, iv e.2] := ⟨_, rfl⟩
    obtain ⟨s, hs⟩ : ∃ s, s = H1.next := ⟨_, rfl⟩
    rw [← hH2, ← hs] at st VE
    rw [← hH2] at on2
    have f0 : H2.load ⟨s, 0, none⟩ = some (iv e.1) := VE.load 0
    have f1 : H2.load ⟨s, 1, none⟩ = some (iv e.2) := VE.load 1
    have h2 := h1.frame on2.base (fun b hb1 hb2 => on2.keep b (by omega))
    obtain ⟨v, H3, aT, rfl, w3, b3, n3, k3, h3⟩ := add_T on2.wf h2 (by rw [adds_len]; exact hlen) e.1 e.2 ⟨⟨by omega, by omega⟩, by omega⟩ hol
    have tk : l.take (i + 1) = l.take i ++ [e] := by rw [List.take_succ_eq_append_getElem hi', he]
    have b31 : H3.base = HB.base := by rw [b3, on2.base, b1]
    have n31 : HB.next ≤ H3.next := by have := on2.next; omega
    have k31 : ∀ b, b < HB.next → (b < lo ∨ hi ≤ b) → H3.blk b = HB.blk b := fun b hb1 hb2 => by rw [k3 b hb2, on2.keep b (by omega), k1 b hb1 hb2]
    simp [L22_1, u95, u96, hi', hiI, u94', ldx, st, ← hs, f0, f1, u10]
    refine goT_of aT ?_
    simp [u96, e4]
    refine ⟨k, by omega, i + 1, _, by omega, by simp [u0], by simp [u2], by simp [u4], by simp [u10], by simp [u94, ← hyb], by simp [u95], by simp, w3, b31, n31, k31, ?_, ?_, by rw [tk, List.foldl_append]; exact h3⟩
    · split <;> omega
    · split <;> omega
/-- What After answers. -/
def AfterQ (H : Heap) (S : BS) (xm xo xr : Value) (o : Out) (H' : Heap) : Prop :=
  On H H' ∧ ∃ x0 x1 x2, o = .ret (.agg #[x0, x1, x2, iv S.fa, iv S.fo, iv S.fv, iv S.count]) ∧ Own H' 2 1 S.mem.length (ci S.mem) x0 ∧ Own H' 2 1 S.outs.length (ci S.outs) x1 ∧ Own H' 2 1 S.reds.length (ci S.reds) x2 ∧
    ∀ b, (blkOf x0 = some b ∨ blkOf x1 = some b ∨ blkOf x2 = some b) → H.next ≤ b ∨ blkOf xm = some b ∨ blkOf xo = some b ∨ blkOf xr = some b
abbrev resC (x0 x1 x2 : Value) (S : BS) : List Value := [x0, x1, x2, iv S.fa, iv S.fo, iv S.fv, iv S.count]
theorem after_E {H : Heap} (hw : H.WF) {J : Jb} (ok : JbOk H J) (hv : validE J = 0) {S : BS} {age : Int} {V : Ms × Wl} {xm xo xr ym yo yi : Value} (om : Own H 2 1 S.mem.length (ci S.mem) xm) (oo : Own H 2 1 S.outs.length (ci S.outs) xo) (or' : Own H 2 1 S.reds.length (ci S.reds) xr)
    (hr : S.reds.length = J.reds.length) (vm : Own H 2 1 V.2.mem.length (ci V.2.mem) ym) (vo : Own H 2 1 V.2.outs.length (ci V.2.outs) yo) (vi : Own H 97 2 V.2.intos.length (c2 V.2.intos) yi) (bm : V.2.mem.length ≤ 1000) (bo : S.outs.length ≤ 10000000) (bo2 : V.2.outs.length ≤ 4001) (bi : V.2.intos.length ≤ 4001) (bc : S.count ≤ 1000) :
    TE Try.prog 22 [.agg (jobC J).toArray, .agg (resC xm xo xr S).toArray, iv age, .agg #[ym, yo, yi, iv V.1.over, iv V.1.value, iv V.1.steps]] H (AfterQ H (afterV J S age V) xm xo xr) := by
  refine TE_by hm light22 ?_
  -- the four variables
  obtain ⟨HA, hHA⟩ : ∃ HA, HA = H.new 29 11 (jobC J) := ⟨_, rfl⟩
  have onA : On H HA := by rw [hHA]; exact (On.refl hw).new _ _ _
  have vA : Vr HA H.next 29 11 (jobC J) := by rw [hHA]; exact Vr.mk' hw _ _ _
  have nA : HA.next = H.next + 1 := by rw [hHA]; rfl
  obtain ⟨HB, hHB⟩ : ∃ HB, HB = HA.new 37 7 (resC xm xo xr S) := ⟨_, rfl⟩
  have onB : On HA HB := by rw [hHB]; exact (On.refl onA.wf).new _ _ _
  have vB : Vr HB (H.next + 1) 37 7 (resC xm xo xr S) := by rw [hHB, ← nA]; exact Vr.mk' onA.wf _ _ _
  have nB : HB.next = H.next + 2 := by rw [hHB]; simp [nA]
  obtain ⟨XC, hXC⟩ : ∃ X : List Value, X = [ym, yo, yi, iv V.1.over, iv V.1.value, iv V.1.steps] := ⟨_, rfl⟩
  obtain ⟨HC, hHC⟩ : ∃ HC, HC = HB.new 67 6 [ym, yo, yi, iv V.1.over, iv V.1.value, iv V.1.steps] := ⟨_, rfl⟩
  have onC : On HB HC := by rw [hHC]; exact (On.refl onB.wf).new _ _ _
  have vC : Vr HC (H.next + 2) 67 6 [ym, yo, yi, iv V.1.over, iv V.1.value, iv V.1.steps] := by rw [hHC, ← nB]; exact Vr.mk' onB.wf _ _ _
  have nC : HC.next = H.next + 3 := by rw [hHC]; simp [nB]
  obtain ⟨HD, hHD⟩ : ∃ HD, HD = HC.new 37 7 [.slice none 0 0, .slice none 0 0, .slice none 0 0, iv 0, iv 0, iv 0, iv 0] := ⟨_, rfl⟩
  have onD : On HC HD := by rw [hHD]; exact (On.refl onC.wf).new _ _ _
  have vD : Vr HD (H.next + 3) 37 7 [.slice none 0 0, .slice none 0 0, .slice none 0 0, iv 0, iv 0, iv 0, iv 0] := by rw [hHD, ← nC]; exact Vr.mk' onC.wf _ _ _
  have nD : HD.next = H.next + 4 := by rw [hHD]; simp [nC]
  have onAD := (onB.trans onC).trans onD
  have onBD := onC.trans onD
  have onHD := onA.trans onAD
  have wD := onHD.wf
  have vJ := vA.on onA.wf onAD
  have vR := vB.on onB.wf onBD
  have vX := vC.on onC.wf onD
  have hHA2 : H.new 29 11 [iv J.words, J.xc, J.xr, iv J.fuel, iv J.S.kind, iv J.S.lo, iv J.S.hi, iv J.S.step, iv J.S.items, iv J.S.stages, J.xk] = HA := hHA.symm
  have hHB2 : HA.new 37 7 [xm, xo, xr, iv S.fa, iv S.fo, iv S.fv, iv S.count] = HB := hHB.symm
  obtain ⟨ax, hax⟩ := om.len
  obtain ⟨bx, hbx⟩ := oo.len
  obtain ⟨cx, hcx⟩ := or'.len
  obtain ⟨dx, hdx⟩ := vm.len
  obtain ⟨ex, hex⟩ := vo.len
  obtain ⟨fx, hfx⟩ := vi.len
  have x3 : HD.load ⟨H.next + 2, 3, none⟩ = some (iv V.1.over) := vX.load 3
  have x4 : HD.load ⟨H.next + 2, 4, none⟩ = some (iv V.1.value) := vX.load 4
  have x0 : HD.load ⟨H.next + 2, 0, none⟩ = some ym := vX.load 0
  obtain ⟨z, hz⟩ : ∃ z, z = (V.1.over != 1) := ⟨_, rfl⟩
  cases z with
  | true =>
    have hne : V.1.over ≠ 1 := bne_iff_ne.1 hz.symm
    obtain ⟨S', hS'⟩ : ∃ S', S' = afterV J S age V := ⟨_, rfl⟩
    rw [← hS']
    unfold afterV at hS'
    rw [if_pos hne] at hS'
    have vR' : Vr HD (H.next + 1) 37 7 ([xm, xo, xr] ++ ([iv S.fa, iv S.fo, iv S.fv] ++ [iv S.count])) := vR
    have st := vR'.storeMid (new := [iv age, iv V.1.over, iv V.1.value]) rfl (by simp)
    obtain ⟨HE, hHE⟩ : ∃ HE, HE = HD.put (H.next + 1) (resC xm xo xr S') := ⟨_, rfl⟩
    have e1 : [xm, xo, xr] ++ ([iv age, iv V.1.over, iv V.1.value] ++ [iv S.count]) = resC xm xo xr S' := by rw [hS']; rfl
    rw [e1, ← hHE] at st
    have st' : sStore HD 3 (.pointer (some ⟨H.next + 1, 3, none⟩)) (.agg #[iv age, iv V.1.over, iv V.1.value]) = some HE := st
    have vE : Vr HE (H.next + 1) 37 7 (resC xm xo xr S') := by rw [hHE]; exact vR.put _
    have ldE : HE.loadN ⟨H.next + 1, 0, none⟩ 0 7 = some [xm, xo, xr, iv S'.fa, iv S'.fo, iv S'.fv, iv S'.count] := vE.loadA rfl
    have vS : Vr HE (H.next + 3) 37 7 [.slice none 0 0, .slice none 0 0, .slice none 0 0, iv 0, iv 0, iv 0, iv 0] := by rw [hHE]; exact vD.beside (by omega) _
    have sS := vS.storeA (m := 7) (by decide) [xm, xo, xr, iv S'.fa, iv S'.fo, iv S'.fv, iv S'.count] rfl rfl
    obtain ⟨HF, hHF⟩ : ∃ HF, HF = HE.put (H.next + 3) [xm, xo, xr, iv S'.fa, iv S'.fo, iv S'.fv, iv S'.count] := ⟨_, rfl⟩
    have lF : HF.loadN ⟨H.next + 3, 0, none⟩ 0 7 = some [xm, xo, xr, iv S'.fa, iv S'.fo, iv S'.fv, iv S'.count] := by rw [hHF]; exact (vS.put _).loadA rfl
    rw [← hHF] at sS
    have onF : On H HF := by rw [hHF, hHE]; exact (onHD.put (by omega) _).put (by omega) _
    simp [L22, hHA2, nA, hHB2, nB, ← hHC, nC, ← hHD, x3, x4, ← hz, st', ldE, sS, lF]
    refine ⟨onF, xm, xo, xr, rfl, ?_, ?_, ?_, ?_⟩
    · rw [hS']; exact Own.on hw om onF
    · rw [hS']; exact Own.on hw oo onF
    · rw [hS']; exact Own.on hw or' onF
    · rintro b (h | h | h)
      · exact .inr (.inl h)
      · exact .inr (.inr (.inl h))
      · exact .inr (.inr (.inr h))
  | false =>
  have ho : V.1.over = 1 := by simpa using hz.symm
  obtain ⟨S', hS'⟩ : ∃ S', S' = afterV J S age V := ⟨_, rfl⟩
  rw [← hS']
  unfold afterV at hS'
  rw [if_neg (by simp [ho])] at hS'
  -- the memory
  obtain ⟨am, H5, apm, G5⟩ := Og.pour wD (Own.nil HD 2 1) (Own.ints (Own.on hw vm onHD)).src (by simp) (bytes := 8) (by omega)
  have on5 : On HD H5 := ⟨G5.wf, G5.base, G5.next, R14.Og.olds G5⟩
  obtain ⟨zm, hzm⟩ : ∃ z : Value, z = .slice am (0 + V.2.mem.length) 0 := ⟨_, rfl⟩
  rw [← hzm] at apm G5
  have vR5 := vR.on wD on5
  have s5 : sStore H5 1 (.pointer (some ⟨H.next + 1, 0, none⟩)) zm = some (H5.put (H.next + 1) (resC zm xo xr S)) := by
    have h : H5.store ⟨H.next + 1, 0, none⟩ zm = some (H5.put (H.next + 1) (resC zm xo xr S)) := vR5.store 0 zm (by simp)
    rw [hzm, Nat.zero_add] at h ⊢; simp [h]
  obtain ⟨H6, hH6⟩ : ∃ H6, H6 = H5.put (H.next + 1) (resC zm xo xr S) := ⟨_, rfl⟩
  rw [← hH6] at s5
  have fr6 : Fr HD H6 (H.next + 1) := by rw [hH6]; exact (on5.fr _).put _
  have vR6 : Vr H6 (H.next + 1) 37 7 (resC zm xo xr S) := by rw [hH6]; exact vR5.put _
  have w6 := fr6.wf
  have onH6 : On H H6 := by rw [hH6]; exact (onHD.trans on5).put (by omega) _
  -- what was put out
  have r1 : H6.load ⟨H.next + 1, 1, none⟩ = some xo := vR6.load 1
  have x1 : H6.load ⟨H.next + 2, 1, none⟩ = some yo := (vX.fr wD (by omega) fr6).load 1
  obtain ⟨ao, H7, ap1, G7⟩ := Og.pour w6 (Own.nil H6 2 1) (Own.ints (Own.on hw oo onH6)).src (by simp) (bytes := 8) (by omega)
  have on7 : On H6 H7 := ⟨G7.wf, G7.base, G7.next, R14.Og.olds G7⟩
  have x1' : H7.load ⟨H.next + 2, 1, none⟩ = some yo := load_keepN w6 on7.base on7.keep x1
  obtain ⟨z1, hz1⟩ : ∃ z : Value, z = .slice ao (0 + S.outs.length) 0 := ⟨_, rfl⟩
  rw [← hz1] at ap1 G7
  obtain ⟨bo', H8, ap2, G8⟩ := Og.pour G7.wf G7.own (Own.ints (Own.on hw vo (onH6.trans on7))).src (by simp) (bytes := 8) (by omega)
  obtain ⟨z2, hz2⟩ : ∃ z : Value, z = .slice bo' (0 + S.outs.length + V.2.outs.length) 0 := ⟨_, rfl⟩
  rw [← hz2] at ap2 G8
  have nz1 : ∀ b, blkOf z1 = some b → H6.next ≤ b := fun b hb => by
    rcases G7.old b hb with h | h
    · cases h
    · exact h
  have nz2 : ∀ b, blkOf z2 = some b → H6.next ≤ b := fun b hb => by
    rcases G8.old b hb with h | h
    · exact nz1 b h
    · have := on7.next; omega
  have on8 : On H6 H8 := ⟨G8.wf, G8.base.trans on7.base, Nat.le_trans on7.next G8.next, fun b hb => by
    rw [G8.same b (Nat.lt_of_lt_of_le hb on7.next) (fun h => by have := nz1 b h; omega), on7.keep b hb]⟩
  have vR8 := vR6.on w6 on8
  have s8 : sStore H8 1 (.pointer (some ⟨H.next + 1, 1, none⟩)) z2 = some (H8.put (H.next + 1) (resC zm z2 xr S)) := by
    have h : H8.store ⟨H.next + 1, 1, none⟩ z2 = some (H8.put (H.next + 1) (resC zm z2 xr S)) := vR8.store 1 z2 (by simp)
    rw [hz2, Nat.zero_add] at h ⊢; simp [h]
  obtain ⟨H9, hH9⟩ : ∃ H9, H9 = H8.put (H.next + 1) (resC zm z2 xr S) := ⟨_, rfl⟩
  rw [← hH9] at s8
  have fr9 : Fr H6 H9 (H.next + 1) := by rw [hH9]; exact (on8.fr _).put _
  have fr09 := fr6.trans fr9
  have vR9 : Vr H9 (H.next + 1) 37 7 (resC zm z2 xr S) := by rw [hH9]; exact vR8.put _
  have w9 := fr9.wf
  have n6 : H.next + 4 ≤ H6.next := by have := fr6.next; omega
  have onH9 : On H H9 := by rw [hH9]; exact (onH6.trans on8).put (by omega) _
  have j2 : H9.load ⟨H.next, 2, none⟩ = some J.xr := (vJ.fr wD (by omega) fr09).load 2
  -- what was put in
  have chk : R14.chkC J.reds = 0 := by
    unfold validE at hv
    split at hv
    · rename_i h; exact absurd hv h
    · split at hv
      · rename_i h; exact absurd hv h
      · rename_i h; simpa using h
  obtain ⟨v10, H10, nT, w10, b10, n10, k10, hq10⟩ := R14.new_T w9 (ok.xr.keep hw onH9.base onH9.keep)
  unfold R14.NewQ at hq10
  unfold R14.chkC at chk
  have r4 : ¬ 4 < J.reds.length := fun h => by rw [if_pos h] at chk; cases chk
  rw [if_neg r4] at chk hq10
  have rall : J.reds.all (fun r => R14.right r.1) = true := by
    cases hb : J.reds.all (fun r => R14.right r.1) with
    | true => rfl
    | false => rw [hb] at chk; cases chk
  rw [if_pos rall] at hq10
  obtain ⟨ph, xoh, xnh, rfl, NW⟩ := hq10
  have on10 : On H9 H10 := ⟨w10, b10, n10, k10⟩
  obtain ⟨ops, hops⟩ : ∃ o, o = J.reds.map Prod.fst := ⟨_, rfl⟩
  have hp10 : R14.HP H10 H9.next H10.next ph ops (zer ops) 0 xoh xnh := by
    have h := NW.hp
    have e1 : zer ops = J.reds.map fun r => R14.zeroV r.1 := by rw [hops]; simp [zer]
    rw [e1, hops]
    exact h
  have hol : ops.length = J.reds.length := by rw [hops]; simp
  have x2 : H10.load ⟨H.next + 2, 2, none⟩ = some yi := load_keepN w9 on10.base on10.keep ((vX.fr wD (by omega) fr09).load 2)
  have vi10 := Own.on hw vi (onH9.trans on10)
  have lyi : sLenL yi = some (iv V.2.intos.length) := by rw [hfx]; rfl
  simp [L22, hHA2, nA, hHB2, nB, ← hHC, nC, ← hHD, x3, ← hz, x0, apm, s5, r1, ap1, x1, x1', ap2, s8, j2]
  refine goT_of nT ?_
  simp [x2, lyi]
  refine add_loop2 w10 hp10 (by simp [zer]) (by omega) vi10 (fun b hb => .inl (by have := vi.lt hw hb; have := onH9.next; omega)) (Nat.le_refl _) (by omega) (by simp) (by simp) (by simp) (by simp) ?_
  intro t6 H11 many u5 u7 u8 u9 w11 b11 n11 k11 h11
  simp at u5 u7 u8 u9
  have on911 : On H9 H11 := ⟨w11, b11.trans b10, Nat.le_trans n10 n11, fun b hb => by rw [k11 b (Nat.lt_of_lt_of_le hb n10) (.inl hb), k10 b hb]⟩
  have vR11 := vR9.on w9 on911
  have r2 : H11.load ⟨H.next + 1, 2, none⟩ = some xr := vR11.load 2
  have onH11 := onH9.trans on911
  obtain ⟨v12, H12, oT, hQ⟩ := R14.onto_T w11 h11 (by rw [adds_len]; simp [zer]) (by omega) n11 (Own.ints (Own.on hw or' onH11)) (by omega)
  unfold R14.OntoQ at hQ
  rw [if_pos (by rw [adds_len, hr]; simp [zer, hol])] at hQ
  obtain ⟨zr, rfl, G12⟩ := hQ
  have on12 : On H11 H12 := ⟨G12.wf, G12.base, G12.next, R14.Og.olds G12⟩
  have vR12 := vR11.on w11 on12
  have s12 : sStore H12 1 (.pointer (some ⟨H.next + 1, 2, none⟩)) zr = some (H12.put (H.next + 1) (resC zm z2 zr S)) := by
    obtain ⟨ar, har⟩ := G12.own.len
    have h : H12.store ⟨H.next + 1, 2, none⟩ zr = some (H12.put (H.next + 1) (resC zm z2 zr S)) := vR12.store 2 zr (by simp)
    rw [har] at h ⊢; simp [h]
  obtain ⟨H13, hH13⟩ : ∃ H13, H13 = H12.put (H.next + 1) (resC zm z2 zr S) := ⟨_, rfl⟩
  rw [← hH13] at s12
  have fr13 : Fr H9 H13 (H.next + 1) := by rw [hH13]; exact ((on911.trans on12).fr _).put _
  have vR13 : Vr H13 (H.next + 1) 37 7 (resC zm z2 zr S) := by rw [hH13]; exact vR12.put _
  have c13 : H13.load ⟨H.next + 1, 6, none⟩ = some (iv S.count) := vR13.load 6
  -- one more
  have e8 : IntKind.i64.wrap ((S.count : Int) + 1) = ((S.count + 1 : Nat) : Int) := by rw [w64 _ (by omega)]; omega
  have rows : resC zm z2 zr S' = [zm, z2, zr, iv S.fa, iv S.fo, iv S.fv, iv ((S.count + 1 : Nat) : Int)] := by rw [hS']
  obtain ⟨c9, hc9⟩ : ∃ c : Nat, c = S.count + 1 := ⟨_, rfl⟩
  rw [← hc9] at e8 rows
  have s13 : H13.store ⟨H.next + 1, 6, none⟩ (iv c9) = some (H13.put (H.next + 1) (resC zm z2 zr S')) := by
    rw [vR13.store 6 (iv c9) (by simp), rows]; rfl
  obtain ⟨H14, hH14⟩ : ∃ H14, H14 = H13.put (H.next + 1) (resC zm z2 zr S') := ⟨_, rfl⟩
  rw [← hH14] at s13
  have fr14 : Fr H9 H14 (H.next + 1) := by rw [hH14]; exact fr13.put _
  have vR14 : Vr H14 (H.next + 1) 37 7 (resC zm z2 zr S') := by rw [hH14]; exact vR13.put _
  have ld14 : H14.loadN ⟨H.next + 1, 0, none⟩ 0 7 = some [zm, z2, zr, iv S'.fa, iv S'.fo, iv S'.fv, iv S'.count] := vR14.loadA rfl
  have vS : Vr H14 (H.next + 3) 37 7 [.slice none 0 0, .slice none 0 0, .slice none 0 0, iv 0, iv 0, iv 0, iv 0] := vD.fr wD (by omega) (fr09.trans fr14)
  have lm : notTup zm = true := by rw [hzm]; rfl
  have lo : notTup z2 = true := by rw [hz2]; rfl
  have sS := vS.storeA (m := 7) (by decide) [zm, z2, zr, iv S'.fa, iv S'.fo, iv S'.fv, iv S'.count] rfl rfl
  obtain ⟨HF, hHF⟩ : ∃ HF, HF = H14.put (H.next + 3) [zm, z2, zr, iv S'.fa, iv S'.fo, iv S'.fv, iv S'.count] := ⟨_, rfl⟩
  have lF : HF.loadN ⟨H.next + 3, 0, none⟩ 0 7 = some [zm, z2, zr, iv S'.fa, iv S'.fo, iv S'.fv, iv S'.count] := by rw [hHF]; exact (vS.put _).loadA rfl
  rw [← hHF] at sS
  simp [u9, u5, r2]
  refine goT_of oT ?_
  simp [u5, s12, c13, e8, s13, ld14, u8, sS, lF]
  have onHF : On H HF := by
    rw [hHF]
    refine On.put ?_ (by omega) _
    refine ⟨fr14.wf, fr14.base.trans onH9.base, Nat.le_trans onH9.next fr14.next, fun b hb => ?_⟩
    rw [fr14.keep b (Nat.lt_of_lt_of_le hb onH9.next) (by omega), onH9.keep b hb]
  have kp : ∀ {Hk : Heap} {n : Nat} {cs : List Value} {y : Value}, Own Hk 2 1 n cs y → Hk.WF → (∀ b, blkOf y = some b → H.next + 4 ≤ b) → Fr Hk H14 (H.next + 1) → Own HF 2 1 n cs y := fun h hwk h1 h2 => by
    refine h.keep (by rw [hHF]; exact B_eq h2.base) (fun b hb => ?_)
    have := h1 b hb
    rw [hHF]
    simp [show b ≠ H.next + 3 by omega]
    exact h2.keep b (h.lt hwk hb) (by omega)
  have nzm : ∀ b, blkOf zm = some b → H.next + 4 ≤ b := fun b hb => by
    rcases G5.old b hb with h | h
    · cases h
    · omega
  have nzr : ∀ b, blkOf zr = some b → H.next + 4 ≤ b := fun b hb => by
    rcases G12.old b hb with h | h
    · cases h
    · have := on911.next; have := fr9.next; omega
  have f5 : Fr H5 H14 (H.next + 1) := by
    have a : Fr H5 H6 (H.next + 1) := by rw [hH6]; exact (Fr.refl G5.wf _).put _
    exact (a.trans fr9).trans fr14
  have f8 : Fr H8 H14 (H.next + 1) := by
    have a : Fr H8 H9 (H.next + 1) := by rw [hH9]; exact (Fr.refl G8.wf _).put _
    exact a.trans fr14
  have f12 : Fr H12 H14 (H.next + 1) := by
    rw [hH14, hH13]; exact ((Fr.refl G12.wf _).put _).put _
  refine ⟨onHF, zm, z2, zr, rfl, ?_, ?_, ?_, ?_⟩
  · have h := kp G5.own G5.wf nzm f5
    rw [hS']
    simpa [ci] using h
  · have h := kp G8.own G8.wf (fun b hb => by have := nz2 b hb; omega) f8
    rw [hS']
    simpa [ci] using h
  · have h := kp G12.own G12.wf nzr f12
    rw [hS']
    simp only [R14.ontoN_len]
    rw [← hops, ← hol]
    exact h
  · rintro b (h | h | h)
    · have := nzm b h; left; omega
    · have := nz2 b h; left; omega
    · have := nzr b h; left; omega
end Go.Proofs.Ytjkfghekdcalhaa
namespace Go.Proofs.Ytjkfghekdcalhaa
open Go.Ot Go.RowKit
open R14 (Twos ci joinV addN ontoN HP add_T may)
set_option linter.unusedSimpArgs false
set_option linter.unusedVariables false
/-- Where stands what can be seen. -/
structure Rw (H : Heap) (lo pr : Nat) (S : BS) (x0 x1 x2 : Value) : Prop where
  m : Own H 2 1 S.mem.length (ci S.mem) x0
  o : Own H 2 1 S.outs.length (ci S.outs) x1
  r : Own H 2 1 S.reds.length (ci S.reds) x2
  n : ∀ b, (blkOf x0 = some b ∨ blkOf x1 = some b ∨ blkOf x2 = some b) → lo ≤ b ∧ b ≠ pr
theorem Rw.on {H H' : Heap} (hw : H.WF) {lo pr : Nat} {S : BS} {x0 x1 x2 : Value} (h : Rw H lo pr S x0 x1 x2) (o : On H H') : Rw H' lo pr S x0 x1 x2 := ⟨Own.on hw h.m o, Own.on hw h.o o, Own.on hw h.r o, h.n⟩
theorem Rw.put {H : Heap} {lo pr : Nat} {S : BS} {x0 x1 x2 : Value} (h : Rw H lo pr S x0 x1 x2) {q : Nat} (hq : q = pr ∨ q < lo) (c : List Value) : Rw (H.put q c) lo pr S x0 x1 x2 := by
  have k : ∀ {n : Nat} {cs : List Value} {y : Value}, Own H 2 1 n cs y → (∀ b, blkOf y = some b → lo ≤ b ∧ b ≠ pr) → Own (H.put q c) 2 1 n cs y := fun a b => a.keep (by simp) (fun d hd => by have := b d hd; simp [show d ≠ q by omega])
  exact ⟨k h.m (fun b hb => h.n b (.inl hb)), k h.o (fun b hb => h.n b (.inr (.inl hb))), k h.r (fun b hb => h.n b (.inr (.inr hb))), h.n⟩
/-- What Upto answers. -/
def UptoQ (H : Heap) (S : BS) (o : Out) (H' : Heap) : Prop :=
  On H H' ∧ ∃ x0 x1 x2, o = .ret (.tuple #[.agg (resC x0 x1 x2 S).toArray, iv 0]) ∧ Own H' 2 1 S.mem.length (ci S.mem) x0 ∧ Own H' 2 1 S.outs.length (ci S.outs) x1 ∧ Own H' 2 1 S.reds.length (ci S.reds) x2 ∧ ∀ b, (blkOf x0 = some b ∨ blkOf x1 = some b ∨ blkOf x2 = some b) → H.next ≤ b
def InvU (H HD : Heap) (J : Jb) (pr many : Nat) (fin : BS) (k : Nat) (t : Tm) (H1 : Heap) : Prop :=
  ∃ (i : Nat) (S : BS) (x0 x1 x2 : Value), i + k = many ∧ t 2 = ptr H.next ∧ t 4 = ptr (H.next + 1) ∧ t 6 = ptr pr ∧ t 36 = iv many ∧ t 37 = iv i ∧ Fr HD H1 pr ∧ Vr H1 pr 37 7 (resC x0 x1 x2 S) ∧ Rw H1 (H.next + 2) pr S x0 x1 x2 ∧ VOk J i S ∧ upR J k i S = fin
theorem upto_E {H : Heap} (hw : H.WF) {J : Jb} (ok : JbOk H J) (hv : validE J = 0) {many : Nat} (hmany : (many : Int) ≤ (cntP J.S).1) : TE Try.prog 11 [.agg (jobC J).toArray, iv many] H (UptoQ H (upR J many 0 (beginS J))) := by
  refine TE_by hm light11 ?_
  obtain ⟨fin, hfin⟩ : ∃ fin, fin = upR J many 0 (beginS J) := ⟨_, rfl⟩
  rw [← hfin]
  have jv := JV.of hv
  have jw := jv.w
  have n200 := cnt_le J.S
  obtain ⟨n, hn⟩ : ∃ n, n = (cntP J.S).1 := ⟨_, rfl⟩
  rw [← hn] at n200 hmany
  obtain ⟨HA, hHA⟩ : ∃ HA, HA = H.new 29 11 (jobC J) := ⟨_, rfl⟩
  have onA : On H HA := by rw [hHA]; exact (On.refl hw).new _ _ _
  have vA : Vr HA H.next 29 11 (jobC J) := by rw [hHA]; exact Vr.mk' hw _ _ _
  have nA : HA.next = H.next + 1 := by rw [hHA]; rfl
  obtain ⟨HB, hHB⟩ : ∃ HB, HB = HA.new 37 7 [.slice none 0 0, .slice none 0 0, .slice none 0 0, iv 0, iv 0, iv 0, iv 0] := ⟨_, rfl⟩
  have onB : On HA HB := by rw [hHB]; exact (On.refl onA.wf).new _ _ _
  have vB : Vr HB (H.next + 1) 37 7 [.slice none 0 0, .slice none 0 0, .slice none 0 0, iv 0, iv 0, iv 0, iv 0] := by rw [hHB, ← nA]; exact Vr.mk' onA.wf _ _ _
  have nB : HB.next = H.next + 2 := by rw [hHB]; simp [nA]
  have vJ := vA.on onA.wf onB
  have lA := (JL.of vJ).lA
  have onHB := onA.trans onB
  have wB := onHB.wf
  have bN := begin_N wB (ok.on hw onHB) hv
  have hHA2 : H.new 29 11 [iv J.words, J.xc, J.xr, iv J.fuel, iv J.S.kind, iv J.S.lo, iv J.S.hi, iv J.S.step, iv J.S.items, iv J.S.stages, J.xk] = HA := hHA.symm
  simp [L11, hHA2, ← hHB, nA, lA]
  refine goA_of wB bN ?_
  rintro o HC ⟨onC, xm, xr, m, rfl, om, orr, nm, nr, hmn⟩ wC bC nC
  have st := new_storeA wC 37 7 [.slice none 0 0, .slice none 0 0, .slice none 0 0, iv 0, iv 0, iv 0, iv 0] [xm, .slice none 0 0, xr, iv 0, iv 0, iv 0, iv 0] rfl rfl (by decide)
  obtain ⟨pr, hpr⟩ : ∃ r, r = HC.next := ⟨_, rfl⟩
  obtain ⟨HD, hHD⟩ : ∃ HD, HD = HC.new 37 7 [xm, .slice none 0 0, xr, iv 0, iv 0, iv 0, iv 0] := ⟨_, rfl⟩
  have onD : On HC HD := by rw [hHD]; exact (On.refl wC).new _ _ _
  have vD : Vr HD pr 37 7 (resC xm (.slice none 0 0) xr (beginS J)) := by rw [hHD, hpr]; exact Vr.mk' wC _ _ _
  have nD : HD.next = pr + 1 := by rw [hHD, hpr]; rfl
  rw [← hHD, ← hpr] at st
  have onBD := onC.trans onD
  have onHD := onHB.trans onBD
  have wD := onHD.wf
  have vJD := vJ.on wB onBD
  have lS := (JL.of vJD).lS
  have cT := count_T wD J.S ok.S
  rw [jv.c, ← hn] at cT
  have lprn : pr ≥ H.next + 2 := by have := onC.next; omega
  have c1 : ¬ ((many : Int) < 0) := by omega
  have c2 : ¬ (n < (many : Int)) := by omega
  have rw0 : Rw HD (H.next + 2) pr (beginS J) xm (.slice none 0 0) xr := by
    refine ⟨Own.on wC om onD, Own.nil _ _ _, ?_, fun b hb => ?_⟩
    · have h := Own.on wC orr onD
      simpa [beginS] using h
    · rcases hb with h | h | h
      · have := nm b h; have := om.lt wC h; omega
      · cases h
      · have := nr b h; have := orr.lt wC h; omega
  simp [← hpr, st, lS]
  refine goT_of cT ?_
  simp [c1, c2]
  refine loop_at (InvU H HD J pr many fin) many ?_ ?_
  · exact ⟨0, beginS J, xm, .slice none 0 0, xr, by omega, by simp, by simp, by simp, by simp, by simp, Fr.refl wD pr, vD, rw0, begin_vok jw.1, hfin.symm⟩
  rintro k t H1 ⟨i, S, x0, x1, x2, hik, t2, t4, t6, t36, t37, fr, v1, rws, vok, hup⟩
  have w1 := fr.wf
  have onH1 : On H H1 := ⟨fr.wf, fr.base.trans onHD.base, Nat.le_trans onHD.next fr.next, fun b hb => by rw [fr.keep b (Nat.lt_of_lt_of_le hb onHD.next) (by omega), onHD.keep b hb]⟩
  have v4 : Vr H1 (H.next + 1) 37 7 [.slice none 0 0, .slice none 0 0, .slice none 0 0, iv 0, iv 0, iv 0, iv 0] := (vB.on wB onBD).fr wD (by omega) fr
  have vJ1 : Vr H1 H.next 29 11 (jobC J) := vJD.fr wD (by omega) fr
  cases k with
  | zero =>
    have ei : i = many := by omega
    have ld : H1.loadN ⟨pr, 0, none⟩ 0 7 = some [x0, x1, x2, iv S.fa, iv S.fo, iv S.fv, iv S.count] := v1.loadA rfl
    have s4 := v4.storeA (m := 7) (by decide) [x0, x1, x2, iv S.fa, iv S.fo, iv S.fv, iv S.count] rfl rfl
    obtain ⟨HE, hHE⟩ : ∃ HE, HE = H1.put (H.next + 1) [x0, x1, x2, iv S.fa, iv S.fo, iv S.fv, iv S.count] := ⟨_, rfl⟩
    have lE : HE.loadN ⟨H.next + 1, 0, none⟩ 0 7 = some [x0, x1, x2, iv S.fa, iv S.fo, iv S.fv, iv S.count] := by rw [hHE]; exact (v4.put _).loadA rfl
    have rE : Rw HE (H.next + 2) pr S x0 x1 x2 := by rw [hHE]; exact rws.put (.inr (by omega)) _
    have onE : On H HE := by rw [hHE]; exact onH1.put (by omega) _
    rw [← hHE] at s4
    have hS : S = fin := hup
    simp [L11_1, t36, t37, ei, t6, ld, t4, s4, lE]
    rw [← hS]
    exact ⟨onE, x0, x1, x2, rfl, rE.m, rE.o, rE.r, fun b hb => by have := rE.n b hb; omega⟩
  | succ k =>
    have hi : i < many := by omega
    have hiI : (i : Int) < (many : Int) := by omega
    have e4 : IntKind.i64.wrap ((i : Int) + 1) = ((i + 1 : Nat) : Int) := by rw [w64 _ (by omega)]; omega
    have lA1 := (JL.of vJ1).lA
    have r0 : H1.load ⟨pr, 0, none⟩ = some x0 := v1.load 0
    have ok1 := ok.on hw onH1
    have kE := task_E w1 ok1 hv (age := i) (by omega) (Own.ints rws.m) vok.mem
    obtain ⟨V, hV⟩ : ∃ V, V = taskV J i S.mem := ⟨_, rfl⟩
    obtain ⟨tr1, tr2, tr3⟩ := task_rows jv i S.mem
    rw [← hV] at kE tr1 tr2 tr3
    have vok' := vok.after jv (age := i)
    rw [← hV] at vok'
    have hup' := hup
    rw [upR, ← hV] at hup'
    obtain ⟨S', hS'⟩ : ∃ S', S' = afterV J S i V := ⟨_, rfl⟩
    rw [← hS'] at vok' hup'
    simp [L11_1, t36, t37, hi, hiI, t2, lA1, t6, r0]
    refine goA_of w1 kE ?_
    rintro o H2 ⟨on2, ym, yo, yi, rfl, q0, q1, q2, nb⟩ w2 b2 n2
    have st2 := new_storeA w2 67 6 [.slice none 0 0, .slice none 0 0, .slice none 0 0, iv 0, iv 0, iv 0] [ym, yo, yi, iv V.1.over, iv V.1.value, iv V.1.steps] rfl rfl (by decide)
    obtain ⟨px, hpx⟩ : ∃ r, r = H2.next := ⟨_, rfl⟩
    obtain ⟨H3, hH3⟩ : ∃ H3, H3 = H2.new 67 6 [ym, yo, yi, iv V.1.over, iv V.1.value, iv V.1.steps] := ⟨_, rfl⟩
    have on3 : On H2 H3 := by rw [hH3]; exact (On.refl w2).new _ _ _
    have v3 : Vr H3 px 67 6 [ym, yo, yi, iv V.1.over, iv V.1.value, iv V.1.steps] := by rw [hH3, hpx]; exact Vr.mk' w2 _ _ _
    rw [← hH3, ← hpx] at st2
    have on13 := on2.trans on3
    have w3 := on13.wf
    have lA3 := (JL.of (vJ1.on w1 on13)).lA
    have vr3 := v1.on w1 on13
    have ld3 : H3.loadN ⟨pr, 0, none⟩ 0 7 = some [x0, x1, x2, iv S.fa, iv S.fo, iv S.fv, iv S.count] := vr3.loadA rfl
    have lx3 : H3.loadN ⟨px, 0, none⟩ 0 6 = some [ym, yo, yi, iv V.1.over, iv V.1.value, iv V.1.steps] := v3.loadA rfl
    have rw3 := rws.on w1 on13
    have aE := after_E w3 (ok.on hw (onH1.trans on13)) hv (S := S) (age := i) (V := V) rw3.m rw3.o rw3.r vok.reds (Own.on w2 q0 on3) (Own.on w2 q1 on3) (Own.on w2 q2 on3) (by have := vok.mem; omega) (by have := vok.outs; omega) tr2 tr3 (by have := vok.cnt; omega)
    rw [← hS'] at aE
    simp [← hpx, st2, t2, lA3, ld3, lx3, t6]
    refine goA_of w3 aE ?_
    rintro o H4 ⟨on4, y0, y1, y2, rfl, a0, a1, a2, nb4⟩ w4 b4 n4
    have on14 := on13.trans on4
    have vr4 := vr3.on w3 on4
    have s4 := vr4.storeA (m := 7) (by decide) [y0, y1, y2, iv S'.fa, iv S'.fo, iv S'.fv, iv S'.count] rfl rfl
    obtain ⟨H5, hH5⟩ : ∃ H5, H5 = H4.put pr [y0, y1, y2, iv S'.fa, iv S'.fo, iv S'.fv, iv S'.count] := ⟨_, rfl⟩
    rw [← hH5] at s4
    have fr5 : Fr HD H5 pr := by rw [hH5]; exact (fr.trans (on14.fr pr)).put _
    have vr5 : Vr H5 pr 37 7 (resC y0 y1 y2 S') := by rw [hH5]; exact vr4.put _
    have prlt : pr < H1.next := w1.lt v1.bq
    have rw4 : Rw H4 (H.next + 2) pr S' y0 y1 y2 := ⟨a0, a1, a2, fun b hb => by
      have := onH1.next
      have := on13.next
      rcases nb4 b hb with h | h
      · omega
      · exact rws.n b h⟩
    have rw5 : Rw H5 (H.next + 2) pr S' y0 y1 y2 := by rw [hH5]; exact rw4.put (.inl rfl) _
    have f5 : H5.load ⟨pr, 4, none⟩ = some (iv S'.fo) := vr5.load 4
    obtain ⟨z, hz⟩ : ∃ z, z = (S'.fo != 0) := ⟨_, rfl⟩
    cases z with
    | true =>
      have hne : S'.fo ≠ 0 := bne_iff_ne.1 hz.symm
      rw [if_pos hne] at hup'
      have ld5 : H5.loadN ⟨pr, 0, none⟩ 0 7 = some [y0, y1, y2, iv S'.fa, iv S'.fo, iv S'.fv, iv S'.count] := vr5.loadA rfl
      have v45 : Vr H5 (H.next + 1) 37 7 [.slice none 0 0, .slice none 0 0, .slice none 0 0, iv 0, iv 0, iv 0, iv 0] := (vB.on wB onBD).fr wD (by omega) fr5
      have s5 := v45.storeA (m := 7) (by decide) [y0, y1, y2, iv S'.fa, iv S'.fo, iv S'.fv, iv S'.count] rfl rfl
      obtain ⟨HE, hHE⟩ : ∃ HE, HE = H5.put (H.next + 1) [y0, y1, y2, iv S'.fa, iv S'.fo, iv S'.fv, iv S'.count] := ⟨_, rfl⟩
      have lE : HE.loadN ⟨H.next + 1, 0, none⟩ 0 7 = some [y0, y1, y2, iv S'.fa, iv S'.fo, iv S'.fv, iv S'.count] := by rw [hHE]; exact (v45.put _).loadA rfl
      have rE : Rw HE (H.next + 2) pr S' y0 y1 y2 := by rw [hHE]; exact rw5.put (.inr (by omega)) _
      have onH5 : On H H5 := ⟨fr5.wf, fr5.base.trans onHD.base, Nat.le_trans onHD.next fr5.next, fun b hb => by rw [fr5.keep b (Nat.lt_of_lt_of_le hb onHD.next) (by omega), onHD.keep b hb]⟩
      have onE : On H HE := by rw [hHE]; exact onH5.put (by omega) _
      rw [← hHE] at s5
      simp [t6, s4, f5, ← hz, ld5, t4, s5, lE]
      rw [← hup']
      exact ⟨onE, y0, y1, y2, rfl, rE.m, rE.o, rE.r, fun b hb => by have := rE.n b hb; omega⟩
    | false =>
      have heq : ¬ S'.fo ≠ 0 := by simpa using hz.symm
      rw [if_neg heq] at hup'
      simp [t6, s4, f5, ← hz, t37, e4]
      exact ⟨k, by omega, i + 1, S', y0, y1, y2, by omega, by simp [t2], by simp [t4], by simp [t6], by simp [t36], by simp, fr5, vr5, rw5, vok', hup'⟩
theorem run_E {H : Heap} (hw : H.WF) {J : Jb} (ok : JbOk H J) (hv : validE J = 0) {many : Nat} (hmany : (many : Int) = (cntP J.S).1) : TE Try.prog 12 [.agg (jobC J).toArray] H (UptoQ H (upR J many 0 (beginS J))) := by
  refine TE_by hm light12 ?_
  obtain ⟨fin, hfin⟩ : ∃ fin, fin = upR J many 0 (beginS J) := ⟨_, rfl⟩
  have jv := JV.of hv
  obtain ⟨HA, hHA⟩ : ∃ HA, HA = H.new 29 11 (jobC J) := ⟨_, rfl⟩
  have onA : On H HA := by rw [hHA]; exact (On.refl hw).new _ _ _
  have vA : Vr HA H.next 29 11 (jobC J) := by rw [hHA]; exact Vr.mk' hw _ _ _
  have nA : HA.next = H.next + 1 := by rw [hHA]; rfl
  obtain ⟨HB, hHB⟩ : ∃ HB, HB = HA.new 37 7 [.slice none 0 0, .slice none 0 0, .slice none 0 0, iv 0, iv 0, iv 0, iv 0] := ⟨_, rfl⟩
  have onB : On HA HB := by rw [hHB]; exact (On.refl onA.wf).new _ _ _
  have vB : Vr HB (H.next + 1) 37 7 [.slice none 0 0, .slice none 0 0, .slice none 0 0, iv 0, iv 0, iv 0, iv 0] := by rw [hHB, ← nA]; exact Vr.mk' onA.wf _ _ _
  have nB : HB.next = H.next + 2 := by rw [hHB]; simp [nA]
  have vJ := vA.on onA.wf onB
  have lA := (JL.of vJ).lA
  have lS := (JL.of vJ).lS
  have onHB := onA.trans onB
  have wB := onHB.wf
  have okB := ok.on hw onHB
  have vT := valid_T wB okB
  rw [hv] at vT
  have cT := count_T wB J.S okB.S
  rw [jv.c, ← hmany] at cT
  have uE := upto_E wB okB hv (many := many) (by omega)
  rw [← hfin] at uE ⊢
  have hHA2 : H.new 29 11 [iv J.words, J.xc, J.xr, iv J.fuel, iv J.S.kind, iv J.S.lo, iv J.S.hi, iv J.S.step, iv J.S.items, iv J.S.stages, J.xk] = HA := hHA.symm
  simp [L12, hHA2, ← hHB, nA, lA]
  refine goT_of vT ?_
  simp [lS]
  refine goT_of cT ?_
  simp [lA]
  refine goA_of wB uE ?_
  rintro o H1 ⟨on1, x0, x1, x2, rfl, o0, o1, o2, nb⟩ w1 b1 n1
  have v1 := vB.on wB on1
  have s1 := v1.storeA (m := 7) (by decide) [x0, x1, x2, iv fin.fa, iv fin.fo, iv fin.fv, iv fin.count] rfl rfl
  obtain ⟨H2, hH2⟩ : ∃ H2, H2 = H1.put (H.next + 1) [x0, x1, x2, iv fin.fa, iv fin.fo, iv fin.fv, iv fin.count] := ⟨_, rfl⟩
  have l2 : H2.loadN ⟨H.next + 1, 0, none⟩ 0 7 = some [x0, x1, x2, iv fin.fa, iv fin.fo, iv fin.fv, iv fin.count] := by rw [hH2]; exact (v1.put _).loadA rfl
  have onF : On H H2 := by rw [hH2]; exact (onHB.trans on1).put (by omega) _
  rw [← hH2] at s1
  simp [s1, l2]
  have kp : ∀ {ety sz m : Nat} {cs : List Value} {y : Value} (h : Own H1 ety sz m cs y), (∀ b, blkOf y = some b → HB.next ≤ b) → Own H2 ety sz m cs y := fun h h1 => h.keep (by rw [hH2]; simp) (fun b hb => by have := h1 b hb; rw [hH2]; simp [show b ≠ H.next + 1 by omega])
  exact ⟨onF, x0, x1, x2, rfl, kp o0 (fun b hb => nb b (.inl hb)), kp o1 (fun b hb => nb b (.inr (.inl hb))), kp o2 (fun b hb => nb b (.inr (.inr hb))), fun b hb => by have := nb b hb; omega⟩
end Go.Proofs.Ytjkfghekdcalhaa
