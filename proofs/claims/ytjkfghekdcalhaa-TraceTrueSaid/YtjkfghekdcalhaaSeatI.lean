/-
  Chapter 27: what was told stays so that it may be: plainly. Chapter 27: what can be seen ahead of the first task.
-/
import Derived.Test.YtjkfghekdcalhaaSeatG
namespace Go.Proofs.Ytjkfghekdcalhaa
open Go.Ot Go.RowKit
open R14 (Twos ci joinV addN ontoN)
set_option linter.unusedSimpArgs false
set_option linter.unusedVariables false
theorem TrOk.up {J : Jb} {k : Nat} {t : Tr} (h : TrOk J k t) : TrOk J (k + 1) t := ⟨h.r, h.w, h.n, by have := h.lr; omega, by have := h.lw; omega, by have := h.lo; omega, by have := h.ln; omega⟩
theorem wordB_iff {W x : Int} : wordB W x = true ↔ 0 ≤ x ∧ x < W := by simp [wordB]
theorem SOk.tset {J : Jb} {k : Nat} {S : BS} (h : SOk J k S) (a : Nat) {t' : Option Tr} (ht : ∀ t, t' = some t → TrOk J (k + 1) t) : SOk J (k + 1) { S with tries := S.tries.set a t' } := by
  refine ⟨h.mem, by have := h.outs; have : k * k ≤ (k + 1) * (k + 1) := Nat.mul_le_mul (by omega) (by omega); simp only; omega, h.reds, by simp [h.tl], by have := h.cnt; simp only; omega, fun i t hi => ?_⟩
  simp only [List.getElem?_set] at hi
  split at hi
  · split at hi
    · simp only [Option.some.injEq] at hi; exact ht t hi
    · cases hi
  · exact (h.tr i t hi).up
theorem tr_none (J : Jb) (k : Nat) : TrOk J k Tr.none := by refine ⟨?_, ?_, ?_, by simp [Tr.none], by simp [Tr.none], by simp [Tr.none], by simp [Tr.none]⟩ <;> (intro c hc; simp [Tr.none] at hc)
theorem step_ok {wh : Bool} {J : Jb} {n : Int} {S S' : BS} {x : Ev} {k : Nat} (h : SOk J k S) (hs : stepE wh J n S x = some S') : SOk J (k + 1) S' := by
  unfold stepE at hs
  split at hs
  · cases hs
  unfold stepR at hs
  generalize x.age.toNat = a at hs
  split at hs
  · split at hs
    · cases hs
      exact h.tset a (fun t e => by cases e; exact tr_none _ _)
    · cases hs
  split at hs
  · rename_i t ht
    have tok := h.tr a t ht
    split at hs
    · split at hs
      · rename_i hc
        cases hs
        refine h.tset a (fun t2 e => by
          cases e
          refine ⟨fun c hc2 => ?_, tok.w, tok.n, by have := tok.lr; simp; omega, by have := tok.lw; simp only; omega, by have := tok.lo; simp only; omega, by have := tok.ln; simp only; omega⟩
          rcases List.mem_append.1 hc2 with h1 | h1
          · exact tok.r c h1
          · simp only [List.mem_singleton] at h1; subst h1; exact wordB_iff.1 hc.1)
      · cases hs
    split at hs
    · split at hs
      · rename_i hc
        cases hs
        refine h.tset a (fun t2 e => by
          cases e
          refine ⟨tok.r, fun c hc2 => ?_, tok.n, by have := tok.lr; simp only; omega, by have := tok.lw; simp; omega, by have := tok.lo; simp only; omega, by have := tok.ln; simp only; omega⟩
          rcases List.mem_append.1 hc2 with h1 | h1
          · exact tok.w c h1
          · simp only [List.mem_singleton] at h1; subst h1; exact wordB_iff.1 hc)
      · cases hs
    split at hs
    · cases hs
      exact h.tset a (fun t2 e => by
        cases e
        exact ⟨tok.r, tok.w, tok.n, by have := tok.lr; simp only; omega, by have := tok.lw; simp only; omega, by have := tok.lo; simp; omega, by have := tok.ln; simp only; omega⟩)
    split at hs
    · split at hs
      · rename_i hc
        cases hs
        refine h.tset a (fun t2 e => by
          cases e
          refine ⟨tok.r, tok.w, fun c hc2 => ?_, by have := tok.lr; simp only; omega, by have := tok.lw; simp only; omega, by have := tok.lo; simp only; omega, by have := tok.ln; simp; omega⟩
          rcases List.mem_append.1 hc2 with h1 | h1
          · exact tok.n c h1
          · simp only [List.mem_singleton] at h1; subst h1; exact wordB_iff.1 hc)
      · cases hs
    split at hs
    · cases hs
      exact h.tset a (fun t e => by cases e; exact tr_none _ _)
    split at hs
    · split at hs
      · cases hs
        have h2 := h.tset a (t' := none) (fun t e => by cases e)
        refine ⟨?_, ?_, ?_, h2.tl, ?_, h2.tr⟩
        · show ((setM S.mem t.writes).length : Int) = J.words
          rw [setM_len]; exact h.mem
        · have := h.outs
          have := tok.lo
          have : (k + 1) * (k + 1) = k * k + 2 * k + 1 := by rw [Nat.add_mul, Nat.mul_add]; omega
          simp [commitV]; omega
        · simp [commitV, R14.ontoN_len]
        · have := h.cnt; simp [commitV]; omega
      · cases hs
    split at hs
    · split at hs
      · cases hs
        have h2 := h.tset a (t' := S.tries.getD a none) (fun t2 e => by
          have : S.tries.getD a none = some t := by simp [List.getD, ht]
          rw [this] at e; cases e; exact tok.up)
        exact ⟨h.mem, h2.outs, h.reds, h.tl, by have := h.cnt; simp only; omega, fun i t hi => (h.tr i t hi).up⟩
      · cases hs
    · cases hs
  · cases hs
/-- All events, one behind the other: the place of the first that can't be, or all that is told. -/
def runE (wh : Bool) (J : Jb) (n : Int) : BS → List Ev → Nat → Nat × Int × Option BS
  | S, [], _ => (0, 0, some S)
  | S, x :: l, i => match stepE wh J n S x with
    | none => (i, 270, none)
    | some S' => runE wh J n S' l (i + 1)
/-- What can be seen ahead of all. -/
def beginS (J : Jb) : BS := ⟨memV J.words.toNat J.cells, [], J.reds.map Prod.snd, 0, 0, 0, 0, List.replicate 200 none⟩
/-- What trace.Check answers: a place, an error, what is told. -/
def lookV (wh : Bool) (J : Jb) (l : List Ev) : Nat × Int × Option BS := if validE J ≠ 0 then (0, validE J, none) else runE wh J (cntP J.S).1 (beginS J) l 0
theorem begin_ok {J : Jb} (hw : 1 ≤ J.words) : SOk J 0 (beginS J) := by
  refine ⟨?_, Nat.zero_le _, List.length_map _, List.length_replicate, Nat.le_refl _, fun i t hi => ?_⟩
  · simp only [beginS, memV_len]; omega
  · simp only [beginS, List.getElem?_replicate] at hi
    split at hi <;> simp at hi
theorem runE_cut (wh : Bool) (J : Jb) (n : Int) : ∀ (l : List Ev) (S : BS) (i m : Nat), m ≤ l.length →
    ((runE wh J n S l i).2.1 = 0 → (runE wh J n S (l.take m) i).1 = 0 ∧ (runE wh J n S (l.take m) i).2.1 = 0) ∧
    ((runE wh J n S l i).2.1 ≠ 0 → (runE wh J n S l i).2.1 = 270 ∧ i ≤ (runE wh J n S l i).1 ∧
      ((runE wh J n S l i).1 < i + m → (runE wh J n S (l.take m) i).1 = (runE wh J n S l i).1 ∧ (runE wh J n S (l.take m) i).2.1 = 270) ∧
      (i + m ≤ (runE wh J n S l i).1 → (runE wh J n S (l.take m) i).1 = 0 ∧ (runE wh J n S (l.take m) i).2.1 = 0))
  | [], S, i, m, hm => by
    have : m = 0 := by simpa using hm
    subst this
    simp [runE]
  | x :: l, S, i, 0, hm => by
    refine ⟨fun _ => by simp [runE], fun h => ?_⟩
    simp only [List.take_zero]
    have key : (runE wh J n S (x :: l) i).2.1 = 270 ∧ i ≤ (runE wh J n S (x :: l) i).1 := by
      simp only [runE] at h ⊢
      cases hs : stepE wh J n S x with
      | none => simp
      | some S' =>
        rw [hs] at h
        have := (runE_cut wh J n l S' (i + 1) 0 (by omega)).2 h
        exact ⟨this.1, by have := this.2.1; simp only; omega⟩
    exact ⟨key.1, key.2, fun h1 => by omega, fun _ => by simp [runE]⟩
  | x :: l, S, i, m + 1, hm => by
    simp only [List.take_succ_cons, runE]
    cases hs : stepE wh J n S x with
    | none => simp
    | some S' =>
      have ih := runE_cut wh J n l S' (i + 1) m (by simpa using hm)
      simp only
      refine ⟨ih.1, fun h => ?_⟩
      obtain ⟨h1, h2, h3, h4⟩ := ih.2 h
      exact ⟨h1, by omega, fun h5 => h3 (by omega), fun h5 => h4 (by omega)⟩
end Go.Proofs.Ytjkfghekdcalhaa
namespace Go.Proofs.Ytjkfghekdcalhaa
open Go.Ot Go.RowKit
open R14 (Twos ci joinV addN ontoN)
set_option linter.unusedSimpArgs false
set_option linter.unusedVariables false
def BeginQ (H : Heap) (J : Jb) (o : Out) (H' : Heap) : Prop :=
  On H H' ∧ ∃ xm xr m, o = .ret (.tuple #[.agg #[xm, .slice none 0 0, xr, iv 0, iv 0, iv 0, iv 0], iv 0]) ∧ Own H' 2 1 (memV J.words.toNat J.cells).length (ci (memV J.words.toNat J.cells)) xm ∧ Own H' 2 1 J.reds.length (ci (J.reds.map Prod.snd)) xr ∧
    (∀ b, blkOf xm = some b → H.next ≤ b ∧ b < m) ∧ (∀ b, blkOf xr = some b → m ≤ b) ∧ H.next ≤ m
def InvBg (HD : Heap) (r : Nat) (xm xr : Value) (l : List (Int × Int)) (t2 : Value) (k : Nat) (t : Tm) (H1 : Heap) : Prop :=
  ∃ (i : Nat) (y : Value), i + k = l.length ∧ t 2 = t2 ∧ t 7 = ptr r ∧ t 27 = xr ∧ t 28 = iv l.length ∧ t 29 = iv i ∧ Fr HD H1 r ∧ Vr H1 r 37 7 [xm, .slice none 0 0, y, iv 0, iv 0, iv 0, iv 0] ∧ Own H1 2 1 i (ci ((l.take i).map Prod.snd)) y ∧ (∀ b, blkOf y = some b → HD.next ≤ b)
theorem begin_N {H : Heap} (hw : H.WF) {J : Jb} (ok : JbOk H J) (hv : validE J = 0) : TE Try.prog 19 [.agg (jobC J).toArray] H (BeginQ H J) := by
  refine TE_by hm light19 ?_
  obtain ⟨HA, hHA⟩ : ∃ HA, HA = H.new 29 11 (jobC J) := ⟨_, rfl⟩
  have onA : On H HA := by rw [hHA]; exact (On.refl hw).new _ _ _
  have vA : Vr HA H.next 29 11 (jobC J) := by rw [hHA]; exact Vr.mk' hw _ _ _
  have nA : HA.next = H.next + 1 := by rw [hHA]; rfl
  obtain ⟨HB, hHB⟩ : ∃ HB, HB = HA.new 37 7 [.slice none 0 0, .slice none 0 0, .slice none 0 0, iv 0, iv 0, iv 0, iv 0] := ⟨_, rfl⟩
  have onB : On HA HB := by rw [hHB]; exact (On.refl onA.wf).new _ _ _
  have vB : Vr HB (H.next + 1) 37 7 [.slice none 0 0, .slice none 0 0, .slice none 0 0, iv 0, iv 0, iv 0, iv 0] := by rw [hHB, ← nA]; exact Vr.mk' onA.wf _ _ _
  have nB : HB.next = H.next + 2 := by rw [hHB]; simp [nA]
  have vJ := vA.on onA.wf onB
  have JB := JL.of vJ
  have l0 := JB.l0
  have l1 := JB.l1
  have lA := JB.lA
  have onHB := onA.trans onB
  have okB := ok.on hw onHB
  have vT := valid_T onHB.wf okB
  rw [hv] at vT
  have e0 : ofE J.words J.cells = 0 := by
    unfold validE at hv
    split at hv
    · rename_i h; exact absurd hv h
    · rename_i h; simpa using h
  have mN := memOf_F onHB.wf J.words okB.xc (by have := ok.nc; omega)
  rw [e0] at mN
  have hHA2 : H.new 29 11 [iv J.words, J.xc, J.xr, iv J.fuel, iv J.S.kind, iv J.S.lo, iv J.S.hi, iv J.S.step, iv J.S.items, iv J.S.stages, J.xk] = HA := hHA.symm
  simp [L19, hHA2, ← hHB, nA, lA]
  refine goT_of vT ?_
  simp [l0, l1]
  refine goA_of onHB.wf mN ?_
  rintro o HC ⟨⟨xm, rfl, hxm⟩, onC⟩ wC bC nC
  obtain ⟨om, mnew⟩ := hxm rfl
  have st := new_storeA wC 37 7 [.slice none 0 0, .slice none 0 0, .slice none 0 0, iv 0, iv 0, iv 0, iv 0] [xm, .slice none 0 0, .slice none 0 0, iv 0, iv 0, iv 0, iv 0] rfl rfl (by decide)
  obtain ⟨r, hr⟩ : ∃ r, r = HC.next := ⟨_, rfl⟩
  obtain ⟨HD, hHD⟩ : ∃ HD, HD = HC.new 37 7 [xm, .slice none 0 0, .slice none 0 0, iv 0, iv 0, iv 0, iv 0] := ⟨_, rfl⟩
  have onD : On HC HD := by rw [hHD]; exact (On.refl wC).new _ _ _
  have vD : Vr HD r 37 7 [xm, .slice none 0 0, .slice none 0 0, iv 0, iv 0, iv 0, iv 0] := by rw [hHD, hr]; exact Vr.mk' wC _ _ _
  have nD : HD.next = r + 1 := by rw [hHD, hr]; rfl
  rw [← hHD, ← hr] at st
  have onBD := onC.trans onD
  have onHD := onHB.trans onBD
  have JD := JL.of (vJ.on onHB.wf onBD)
  have l2 := JD.l2
  obtain ⟨ax, cx, hxr⟩ := ok.xr.len
  have l2' := l2
  rw [hxr] at l2'
  obtain ⟨am, hxmE⟩ := om.len
  have m1 : notTup xm = true := by rw [hxmE]; rfl
  have m2 : xm.cells.size = 1 := by rw [hxmE]; rfl
  have m3 : xm.cells.toList = [xm] := by rw [hxmE]; rfl
  simp [← hr, m1, m2, m3, st, l2']
  rw [← hxr]
  refine loop_at (InvBg HD r xm J.xr J.reds (ptr (H.next + 1))) J.reds.length ?_ ?_
  · exact ⟨0, .slice none 0 0, by omega, by simp, by simp, by simp [hxr], by simp, by simp, Fr.refl onHD.wf r, vD, by simpa [ci] using Own.nil _ _ _, fun b hb => by cases hb⟩
  rintro k t H1 ⟨i, y, hik, t2, t7, t27, t28, t29, fr, v1, oy, ny⟩
  have nr := ok.nr
  have on1 : On HC H1 := ⟨fr.wf, fr.base.trans onD.base, Nat.le_trans onD.next fr.next, fun b hb => by rw [fr.keep b (Nat.lt_of_lt_of_le hb onD.next) (by omega), onD.keep b hb]⟩
  have onH1 := (onHB.trans onC).trans on1
  cases k with
  | zero =>
    have ei : i = J.reds.length := by omega
    rw [ei, List.take_length] at oy
    have ld := v1.loadA (m := 7) rfl
    have vB1 : Vr H1 (H.next + 1) 37 7 [.slice none 0 0, .slice none 0 0, .slice none 0 0, iv 0, iv 0, iv 0, iv 0] := vB.on onHB.wf (onC.trans on1)
    have sB := vB1.storeA (m := 7) (by decide) [xm, .slice none 0 0, y, iv 0, iv 0, iv 0, iv 0] rfl rfl
    obtain ⟨HE, hHE⟩ : ∃ HE, HE = H1.put (H.next + 1) [xm, .slice none 0 0, y, iv 0, iv 0, iv 0, iv 0] := ⟨_, rfl⟩
    have ldE : HE.loadN ⟨H.next + 1, 0, none⟩ 0 7 = some [xm, .slice none 0 0, y, iv 0, iv 0, iv 0, iv 0] := by rw [hHE]; exact (vB1.put _).loadA rfl
    rw [← hHE] at sB
    simp [L19_1, t28, t29, ei, t7, ld, t2, sB, ldE]
    refine ⟨by rw [hHE]; exact onH1.put (by omega) _, xm, y, HC.next, rfl, ?_, ?_, fun b hb => ⟨?_, ?_⟩, fun b hb => ?_, ?_⟩
    · rw [memV_len]
      have h1 := Own.on wC om on1
      exact h1.keep (by rw [hHE]; simp) (fun b hb => by have := mnew b hb; rw [hHE]; simp [show b ≠ H.next + 1 by omega])
    · exact oy.keep (by rw [hHE]; simp) (fun b hb => by have := ny b hb; have := onHB.next; rw [hHE]; simp [show b ≠ H.next + 1 by omega])
    · have := mnew b hb; omega
    · exact om.lt wC hb
    · have := ny b hb; omega
    · omega
  | succ k =>
    have hi : i < J.reds.length := by omega
    have hiI : (i : Int) < (J.reds.length : Int) := by omega
    have e4 : IntKind.i64.wrap ((i : Int) + 1) = ((i + 1 : Nat) : Int) := by rw [w64 _ (by omega)]; omega
    obtain ⟨e, he⟩ : ∃ e, e = J.reds[i] := ⟨_, rfl⟩
    obtain ⟨b, off, c, hxb, ldx, _⟩ := twos_rws (ok.xr.keep hw onH1.base onH1.keep) hi
    rw [← he] at ldx
    have t27' := t27.trans hxb
    have st2 := new_storeA fr.wf 87 2 [iv 0, iv 0] [iv e.1, iv e.2] rfl rfl (by decide)
    have VE : Vr (H1.new 87 2 [iv e.1, iv e.2]) H1.next 87 2 [iv e.1, iv e.2] := Vr.mk' fr.wf _ _ _
    have on2 : On H1 (H1.new 87 2 [iv e.1, iv e.2]) := (On.refl fr.wf).new _ _ _
    obtain ⟨H2, hH2⟩ : ∃ H2, H2 = H1.new 87 2 [iv e.1, iv e.2] := ⟨_, rfl⟩
    obtain ⟨s, hs⟩ : ∃ s, s = H1.next := ⟨_, rfl⟩
    rw [← hH2, ← hs] at st2 VE
    rw [← hH2] at on2
    have v2 := v1.on fr.wf on2
    have oy2 := Own.on fr.wf oy on2
    obtain ⟨H3, ap, o3, w3, b3, n3, k3⟩ := own_push on2.wf 8 oy2 (e := [iv e.2]) rfl (by decide) (by omega)
    have f1 : H2.load ⟨s, 1, none⟩ = some (iv e.2) := VE.load 1
    have q2 : H2.load ⟨r, 2, none⟩ = some y := v2.load 2
    have rl1 := fr.wf.lt v1.bq
    have rl := on2.wf.lt v2.bq
    have yr : ∀ b, blkOf y = some b → b ≠ r := fun b hb => by have := ny b hb; omega
    have v3 : Vr H3 r 37 7 [xm, .slice none 0 0, y, iv 0, iv 0, iv 0, iv 0] := v2.keep b3 (by rw [k3 r (by omega) (fun h => yr r h rfl)]; simp [show r ≠ H2.next by omega])
    obtain ⟨z, hz⟩ : ∃ z : Value, z = .slice (some ⟨H2.next + 1, 0, none⟩) (i + 1) 0 := ⟨_, rfl⟩
    rw [← hz] at ap o3
    have s3 : sStore H3 1 (.pointer (some ⟨r, 2, none⟩)) z = some (H3.put r [xm, .slice none 0 0, z, iv 0, iv 0, iv 0, iv 0]) := by
      have h : H3.store ⟨r, 2, none⟩ z = some (H3.put r [xm, .slice none 0 0, z, iv 0, iv 0, iv 0, iv 0]) := v3.store 2 z (by simp)
      rw [hz] at h ⊢; simp [h]
    have z1 : zerosA [iv 0] 1 = [iv 0] := rfl
    have fr3 : Fr HD (H3.put r [xm, .slice none 0 0, z, iv 0, iv 0, iv 0, iv 0]) r := by
      refine Fr.put (p := r) ⟨w3, by rw [b3, on2.base, fr.base], by have := fr.next; have := on2.next; omega, fun b hb hbr => ?_⟩ _
      have := fr.next
      have := on2.next
      rw [k3 b (by omega) (fun h => by have := ny b h; omega)]
      simp only [blk_new]
      rw [if_neg (by omega), on2.keep b (by omega), fr.keep b hb hbr]
    have tk : (J.reds.take (i + 1)).map Prod.snd = (J.reds.take i).map Prod.snd ++ [e.2] := by rw [List.take_succ_eq_append_getElem hi, List.map_append, he]; rfl
    simp [L19_1, t28, t29, hi, hiI, t27', ldx, st2, ← hs, t7, q2, f1, z1, ap, s3, e4]
    refine ⟨k, by omega, i + 1, z, by omega, by simp [t2], by simp [t7], by simp [t27, ← hxb], by simp [t28], by simp, fr3, v3.put _, ?_, fun b hb => ?_⟩
    · rw [tk, R14.ci_append]
      exact o3.keep (by simp) (fun b hb => by rw [hz] at hb; simp at hb; simp [show b ≠ r by omega])
    · rw [hz] at hb; simp at hb
      have := fr.next; have := on2.next; omega
end Go.Proofs.Ytjkfghekdcalhaa
