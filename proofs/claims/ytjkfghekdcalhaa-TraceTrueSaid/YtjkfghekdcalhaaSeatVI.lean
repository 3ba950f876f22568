/-
  Chapter 27: the machine of a task: a run, plainly. Chapter 27: the machine of a task: a run. Chapter 27: vm.Run.
-/
import Derived.Test.YtjkfghekdcalhaaSeatVF
namespace Go.Proofs.Ytjkfghekdcalhaa
open Go.Ot Go.RowKit
open I8 (In rowI)
set_option linter.unusedSimpArgs false
set_option linter.unusedVariables false
structure RunI (code : List In) (W F : Int) (m : Ms) (w : Wl) : Prop where
  a : m.over = 0 → m.at' < code.length
  st : (m.steps : Int) ≤ F
  mem : (w.mem.length : Int) = W
  o : w.outs.length ≤ m.steps
  n : w.intos.length ≤ m.steps
/-- One want, and one step. -/
def tick (code : List In) (W F : Int) (s : Ms × Wl) : Ms × Wl :=
  (stepV code W F s.1 (giveV s.2 (wantV code W F s.1).1 (wantV code W F s.1).2.1 (wantV code W F s.1).2.2).2, (giveV s.2 (wantV code W F s.1).1 (wantV code W F s.1).2.1 (wantV code W F s.1).2.2).1)
def runM (code : List In) (W F : Int) : Nat → Ms × Wl → Ms × Wl
  | 0, s => s
  | k + 1, s => if s.1.over ≠ 0 then s else runM code W F k (tick code W F s)
theorem give_rows (w : Wl) (k a v : Int) : (giveV w k a v).1.mem.length = w.mem.length ∧ (giveV w k a v).1.outs.length ≤ w.outs.length + 1 ∧ (giveV w k a v).1.intos.length ≤ w.intos.length + 1 := by
  unfold giveV
  split
  · simp
  split
  · simp
  split
  · simp
  split
  · simp
  · simp
theorem step_over {code : List In} {W F : Int} {m : Ms} (h : (m.steps : Int) = F) (h0 : m.over = 0) (got : Int) : stepV code W F m got = endV m 5 0 := by
  unfold stepV
  rw [if_neg (by simpa using h0), if_pos h]
theorem want_over {code : List In} {W F : Int} {m : Ms} (h : (m.steps : Int) = F) : wantV code W F m = (0, 0, 0) := by
  unfold wantV
  rw [if_pos (.inr h)]
theorem give_none (w : Wl) (a v : Int) : giveV w 0 a v = (w, 0) := by simp [giveV]
theorem step_steps {code : List In} {W F : Int} {m : Ms} (h : ¬ (m.steps : Int) = F) (h0 : m.over = 0) (hat : m.at' < code.length) (got : Int) : (stepV code W F m got).steps = m.steps + 1 := by
  unfold stepV
  rw [if_neg (by simpa using h0), if_neg h, List.getElem?_eq_getElem hat]
  simp only
  split
  · rfl
  split
  · rfl
  split
  · unfold memoryV
    split
    · rfl
    split <;> rfl
  split
  · unfold branchV
    split <;> rfl
  · unfold reckonV
    split
    · rfl
    split
    · rfl
    split
    · rfl
    split
    · split <;> rfl
    · rfl
theorem step_at {code : List In} {W F : Int} {m : Ms} (hok : CodeOk code) (h : ¬ (m.steps : Int) = F) (h0 : m.over = 0) (hat : m.at' < code.length) (got : Int) (h1 : (stepV code W F m got).over = 0) : (stepV code W F m got).at' < code.length := by
  obtain ⟨xok, xl⟩ := hok m.at' hat
  unfold stepV at h1 ⊢
  rw [if_neg (by simpa using h0), if_neg h, List.getElem?_eq_getElem hat] at h1 ⊢
  simp only at h1 ⊢
  generalize code[m.at'] = x at xok xl h1 ⊢
  split at h1
  · cases h1
  rename_i n1
  rw [if_neg n1]
  split at h1
  · cases h1
  rename_i n13
  rw [if_neg n13]
  have nx : x.kind ≠ 10 → m.at' + 1 < code.length := fun n10 => by
    by_cases e : m.at' + 1 = code.length
    · rcases xl e with h | h | h
      · exact absurd h n1
      · exact absurd h n10
      · exact absurd h n13
    · omega
  split at h1
  · rename_i h67
    rw [if_pos h67]
    have nx := nx (by omega)
    unfold memoryV at h1 ⊢
    split at h1
    · cases h1
    rename_i no
    rw [if_neg no]
    split <;> exact nx
  rename_i n67
  rw [if_neg n67]
  split at h1
  · rename_i hj
    rw [if_pos hj]
    unfold branchV
    split
    · have := xok.k hj
      simp only
      omega
    · rename_i hb
      exact nx (fun h => hb (.inl h))
  · rename_i hj
    rw [if_neg hj]
    have nx := nx (fun h => hj (.inl h))
    unfold reckonV at h1 ⊢
    split
    · exact nx
    split
    · exact nx
    split
    · exact nx
    split
    · rename_i q2 q3 q4 q5
      rw [if_neg q2, if_neg q3, if_neg q4, if_pos q5] at h1
      split
      · exact nx
      · rename_i q6
        rw [if_neg q6] at h1
        cases h1
    · exact nx
theorem run_step {code : List In} {W F : Int} {m : Ms} {w : Wl} (hok : CodeOk code) (h : RunI code W F m w) (h0 : m.over = 0) : RunI code W F (tick code W F (m, w)).1 (tick code W F (m, w)).2 ∧
    ((tick code W F (m, w)).1.over ≠ 0 ∨ (tick code W F (m, w)).1.steps = m.steps + 1) := by
  have hat := h.a h0
  have hst := h.st
  by_cases hf : (m.steps : Int) = F
  · unfold tick
    simp only
    rw [want_over hf, step_over hf h0]
    simp only [give_none]
    exact ⟨⟨fun e => by simp [endV] at e, h.st, h.mem, h.o, h.n⟩, .inl (by simp [endV])⟩
  · have gr := give_rows w (wantV code W F m).1 (wantV code W F m).2.1 (wantV code W F m).2.2
    have ss := step_steps hf h0 hat (W := W) (giveV w (wantV code W F m).1 (wantV code W F m).2.1 (wantV code W F m).2.2).2
    unfold tick
    simp only
    refine ⟨⟨fun e => step_at hok hf h0 hat _ e, by rw [ss]; omega, by rw [gr.1]; exact h.mem, by rw [ss]; have := h.o; omega, by rw [ss]; have := h.n; omega⟩, .inr ss⟩
end Go.Proofs.Ytjkfghekdcalhaa
namespace Go.Proofs.Ytjkfghekdcalhaa
open Go.Ot Go.RowKit
open R14 (ci)
open I8 (In rowI)
set_option linter.unusedSimpArgs false
set_option linter.unusedVariables false
theorem want_in (code : List In) (W F : Int) (m : Ms) : (wantV code W F m).1 = 1 ∨ (wantV code W F m).1 = 2 → 0 ≤ (wantV code W F m).2.1 ∧ (wantV code W F m).2.1 < W := by
  unfold wantV
  split
  · simp
  · split
    · simp
    · split
      · rename_i h
        intro _
        simpa [okA] using h.2
      · split
        · rename_i h
          intro _
          simpa [okA] using h.2
        · split
          · simp
          · split <;> simp
structure RunH (H0 H : Heap) (ow : Nat → Nat) (p r : Nat) (xc : Value) (fs : List Value) (W F : Int) (code : List In) (m : Ms) (w : Wl) (xm xo xi : Value) : Prop where
  on : On H0 H
  wh : WH H ow r w xm xo xi (iv 0) (iv 0) (iv 0)
  vm : VmH H p m xc W F fs
  rc : Rws H 6 xc (code.map rowI)
  lp : ow p = 14
  lc : ∀ b, blkOf xc = some b → ow b = 15
  old : ∀ b, b < H0.next → ow b = 9999
  ri : RunI code W F m w
def InvR (H0 : Heap) (p r : Nat) (xc : Value) (fs : List Value) (W F : Int) (code : List In) (fin : Ms × Wl) (t8 t7 : Value) (k : Nat) (t : Tm) (H : Heap) : Prop :=
  ∃ m w ow xm xo xi, t 8 = t8 ∧ t 7 = t7 ∧ t 10 = ptr p ∧ t 12 = ptr r ∧ t 13 = .func (.func 46) #[ptr r] #[] ∧ RunH H0 H ow p r xc fs W F code m w xm xo xi ∧ runM code W F k (m, w) = fin ∧ (m.over = 0 → (m.steps : Int) + k = F + 1)
theorem rws_at {H H' : Heap} (hw : H.WF) (hb : H'.base = H.base) {sz : Nat} {x : Value} {l : List (List Value)} (h : Rws H sz x l) (hk : ∀ b, b < H.next → blkOf x = some b → H'.blk b = H.blk b) : Rws H' sz x l := by
  rcases h with h | ⟨b, off, c, rfl, hh⟩
  · exact .inl h
  · refine .inr ⟨b, off, c, rfl, fun i hi => ⟨(hh i hi).1, fun j hj => ?_⟩⟩
    have := (hh i hi).2 j hj
    rw [load_frame hb (hk b (load_lt hw this) rfl)]
    exact this
theorem roundR {H0 : Heap} {p r : Nat} {xc : Value} {fs : List Value} {W F : Int} {code : List In} (hok : CodeOk code) (hlen : code.length ≤ 1000) (hF : 1 ≤ F ∧ F ≤ 4000) {fin : Ms × Wl} {t8 t7 : Value} {Q : Post}
    (hE : ∀ t' H', InvR H0 p r xc fs W F code fin t8 t7 0 t' H' → Q (.exit 0) t' (rdy H')) (k : Nat) (t : Tm) (H : Heap) (h : InvR H0 p r xc fs W F code fin t8 t7 k t H) :
    wpA Try.prog L32_1 (thenA (fun t' H' => ∃ m, m < k ∧ InvR H0 p r xc fs W F code fin t8 t7 m t' H') Q) t (rdy H) := by
  obtain ⟨m, w, ow, xm, xo, xi, u8, u7, u10, u12, u13, R, hrun, hk⟩ := h
  have hw := R.on.wf
  have lo := R.vm.l.o
  obtain ⟨z, hz⟩ : ∃ z, z = (m.over == 0) := ⟨_, rfl⟩
  cases z with
  | false =>
    have z0 : m.over ≠ 0 := by simpa using hz.symm
    have hfin : (m, w) = fin := by
      cases k with
      | zero => exact hrun
      | succ k => rw [runM, if_pos z0] at hrun; exact hrun
    simp [L32_1, u10, lo, ← hz]
    exact hE _ _ ⟨m, w, ow, xm, xo, xi, by simp [u8], by simp [u7], by simp [u10], by simp [u12], by simp [u13], R, hfin, fun e => absurd e z0⟩
  | true =>
    have z0 : m.over = 0 := by simpa using hz.symm
    have hk := hk z0
    have ri := R.ri
    have hst := ri.st
    cases k with
    | zero => omega
    | succ k =>
      rw [runM, if_neg (by simpa using z0)] at hrun
      have hat := ri.a z0
      obtain ⟨ri2, hov⟩ := run_step hok ri z0
      have wT := want_T hw R.vm R.rc hok hat hlen
      have win := want_in code W F m
      obtain ⟨q, hq⟩ : ∃ q, q = wantV code W F m := ⟨_, rfl⟩
      have mm := ri.mem
      have oo := ri.o
      have nn := ri.n
      obtain ⟨g, hg⟩ : ∃ g, g = giveV w q.1 q.2.1 q.2.2 := ⟨_, rfl⟩
      rw [← hq] at wT win
      obtain ⟨v1, H1, gT, rfl1, w1, b1, n1, k1, ow', xm', xo', xi', ho, wh1⟩ := give_E hw R.wh q.1 q.2.1 q.2.2 (fun e => by have := win e; omega) (by omega) (by omega)
      simp only [Out.ret.injEq] at rfl1
      subst rfl1
      rw [← hg] at gT wh1
      have bp := hw.lt R.vm.v.bq
      have vm1 : VmH H1 p m xc W F fs := ⟨R.vm.v.keep b1 (k1 p bp (by have := R.lp; omega)), R.vm.r, R.vm.f⟩
      have rc1 : Rws H1 6 xc (code.map rowI) := rws_at hw b1 R.rc (fun b hb e => k1 b hb (by have := R.lc b e; omega))
      have hcp : ∀ b, blkOf xc = some b → b ≠ p := fun b e h => by have := R.lc b e; rw [h, R.lp] at this; omega
      have hcl : ∀ b, blkOf xc = some b → b < H.next := fun b e => by
        rcases R.rc with ⟨rfl, h0⟩ | ⟨b', off, c, rfl, hh⟩
        · cases e
        · cases e
          have h0 : 0 < (code.map rowI).length := by simp; omega
          have := (hh 0 h0).2 0 (by simp [rowI])
          exact load_lt hw this
      obtain ⟨v2, H2, sT, ⟨bb, hbb⟩, fr2, vm2⟩ := step_E w1 vm1 rc1 hcp hok hat hlen (by omega) g.2
      simp only [Out.ret.injEq] at hbb
      subst hbb
      have tv : TV Try.prog (.func (.func 46) #[ptr r] #[]) [.agg #[iv q.1, iv q.2.1, iv q.2.2]] H (iv g.2) H1 := ⟨46, #[ptr r], #[], rfl, ⟨Try.f46, Try.func46, rfl, by kernel_rfl⟩, by simpa using gT⟩
      have h0n := R.on.next
      have p0 : H0.next ≤ p := by
        by_cases e : p < H0.next
        · have := R.old p e; have := R.lp; omega
        · omega
      have on2 : On H0 H2 := ⟨fr2.wf, by rw [fr2.base, b1]; exact R.on.base, by have := fr2.next; omega, fun b hb => by rw [fr2.keep b (by omega) (by omega), k1 b (by omega) (by have := R.old b hb; omega), R.on.keep b hb]⟩
      have lp1 : ow' p = 14 := by rw [ho p bp]; exact R.lp
      have etick : tick code W F (m, w) = (stepV code W F m g.2, g.1) := by unfold tick; simp only; rw [← hq, ← hg]
      rw [etick] at hrun ri2 hov
      have R2 : RunH H0 H2 ow' p r xc fs W F code (stepV code W F m g.2) g.1 xm' xo' xi' := by
        refine ⟨on2, wh1.keep w1 fr2.base (fun b hb h1 h2 => fr2.keep b hb (fun e => by rw [e] at h2; omega)) (fun _ _ => rfl), vm2, rws_at w1 fr2.base rc1 (fun b hb e => fr2.keep b hb (hcp b e)), lp1, fun b e => by rw [ho b (hcl b e)]; exact R.lc b e, fun b hb => by rw [ho b (by omega)]; exact R.old b hb, ri2⟩
      simp [L32_1, u10, lo, ← hz]
      refine goT_of wT ?_
      simp [u13]
      refine goTV_of tv ?_
      simp [u10]
      refine goT_of sT ?_
      simp
      exact ⟨k, by omega, _, _, ow', xm', xo', xi', by simp [u8], by simp [u7], by simp [u10], by simp [u12], by simp [u13], R2, hrun, fun e => by rcases hov with h | h; exact absurd e h; rw [h]; omega⟩
end Go.Proofs.Ytjkfghekdcalhaa
namespace Go.Proofs.Ytjkfghekdcalhaa
open Go.Ot Go.RowKit
open R14 (ci)
open I8 (In rowI)
set_option linter.unusedSimpArgs false
set_option linter.unusedVariables false
def RunVQ (H : Heap) (s : Ms × Wl) (o : Out) (H' : Heap) : Prop :=
  On H H' ∧ ∃ xm xo xi, o = .ret (.tuple #[.agg #[xm, xo, xi, iv s.1.over, iv s.1.value, iv s.1.steps], iv 0]) ∧ Own H' 2 1 s.2.mem.length (ci s.2.mem) xm ∧ Own H' 2 1 s.2.outs.length (ci s.2.outs) xo ∧ Own H' 97 2 s.2.intos.length (c2 s.2.intos) xi ∧
    ∀ b, (blkOf xm = some b ∨ blkOf xo = some b ∨ blkOf xi = some b) → H.next ≤ b
theorem runVM_E {H : Heap} (hw : H.WF) {xc : Value} {code : List In} (hc : Rws H 6 xc (code.map rowI)) (hok : CodeOk code) (cells F n i k : Int) (hv : (I8.checkV code cells).2 = 0) (hF : 1 ≤ F ∧ F ≤ 4000) {xm : Value} {mem : List Int} (hm' : Ints H .i64 xm mem) (hW : 1 ≤ mem.length ∧ mem.length ≤ 64) :
    TE Try.prog 32 [xc, iv cells, iv F, .agg #[xm, iv n, iv i, iv k]] H (RunVQ H (runM code mem.length F (F.toNat + 1) (startM n i k, ⟨mem, [], []⟩))) := by
  refine TE_by hm light32 ?_
  have hlen : code.length ≠ 0 ∧ code.length ≤ 600 := by
    unfold I8.checkV at hv
    split at hv
    · cases hv
    · omega
  obtain ⟨axm, cxm, hxm⟩ := hm'.len
  have m1 : notTup xm = true := by rw [hxm]; rfl
  have m2 : xm.cells.size = 1 := by rw [hxm]; rfl
  have m3 : xm.cells.toList = [xm] := by rw [hxm]; rfl
  obtain ⟨HA, hHA⟩ : ∃ HA, HA = H.new 92 4 [xm, iv n, iv i, iv k] := ⟨_, rfl⟩
  have onA : On H HA := by rw [hHA]; exact (On.refl hw).new _ _ _
  have vA : Vr HA H.next 92 4 [xm, iv n, iv i, iv k] := by rw [hHA]; exact Vr.mk' hw _ _ _
  have nA : HA.next = H.next + 1 := by rw [hHA]; rfl
  have wA := onA.wf
  obtain ⟨HB, hHB⟩ : ∃ HB, HB = HA.new 67 6 [.slice none 0 0, .slice none 0 0, .slice none 0 0, iv 0, iv 0, iv 0] := ⟨_, rfl⟩
  have onB : On HA HB := by rw [hHB]; exact (On.refl wA).new _ _ _
  have vB : Vr HB (H.next + 1) 67 6 [.slice none 0 0, .slice none 0 0, .slice none 0 0, iv 0, iv 0, iv 0] := by rw [hHB, ← nA]; exact Vr.mk' wA _ _ _
  have nB : HB.next = H.next + 2 := by rw [hHB]; simp [nA]
  have onHB := onA.trans onB
  have wB := onHB.wf
  have vI := vA.on wA onB
  have i0 : HB.load ⟨H.next, 0, none⟩ = some xm := vI.load 0
  have i1 : HB.load ⟨H.next, 1, none⟩ = some (iv n) := vI.load 1
  have i2 : HB.load ⟨H.next, 2, none⟩ = some (iv i) := vI.load 2
  have i3 : HB.load ⟨H.next, 3, none⟩ = some (iv k) := vI.load 3
  have nE := newVM_E wB (Rws.keep hw onHB.base onHB.keep hc) cells (mem.length : Int) F n i k hv (by omega) hF
  have lm : sLenL xm = some (iv mem.length) := by rw [hxm]; rfl
  simp [L32, m1, m2, m3, ← hHA, ← hHB, nA, i0, i1, i2, i3, lm]
  refine goA_of wB nE ?_
  rintro o H1 ⟨p, yc, rfl, on1, np, vm1, rc1, nyc⟩ w1 b1 n1
  obtain ⟨r, hr⟩ : ∃ r, r = H1.next := ⟨_, rfl⟩
  obtain ⟨HR, hHR⟩ : ∃ HR, HR = H1.new 120 6 [.slice none 0 0, .slice none 0 0, .slice none 0 0, iv 0, iv 0, iv 0] := ⟨_, rfl⟩
  have onR : On H1 HR := by rw [hHR]; exact (On.refl w1).new _ _ _
  have wR := onR.wf
  have vR : Vr HR r 120 6 [.slice none 0 0, .slice none 0 0, .slice none 0 0, iv 0, iv 0, iv 0] := by rw [hHR, hr]; exact Vr.mk' w1 _ _ _
  have nR : HR.next = r + 1 := by rw [hHR, hr]; rfl
  have r0 : HR.load ⟨r, 0, none⟩ = some (.slice none 0 0) := vR.load 0
  have vIR := vI.on wB (on1.trans onR)
  have i0R : HR.load ⟨H.next, 0, none⟩ = some xm := vIR.load 0
  have onHR := (onHB.trans on1).trans onR
  have src := (hm'.keep hw onHR.base onHR.keep).src
  have ap := append_nil (ety := 2) (bytes := 8) src (by omega) (by omega)
  obtain ⟨HS, hHS⟩ : ∃ HS, HS = HR.new 2 1 (mem.map (.int .i64)) := ⟨_, rfl⟩
  obtain ⟨y, hy⟩ : ∃ y : Value, y = .slice (some ⟨r + 1, 0, none⟩) mem.length 0 := ⟨_, rfl⟩
  rw [← hHS, nR, ← hy] at ap
  have onS : On HR HS := by rw [hHS]; exact (On.refl wR).new _ _ _
  have wS := onS.wf
  have vRS := vR.on wR onS
  obtain ⟨HT, hHT⟩ : ∃ HT, HT = HS.put r [y, .slice none 0 0, .slice none 0 0, iv 0, iv 0, iv 0] := ⟨_, rfl⟩
  have sT : sStore HS 1 (.pointer (some ⟨r, 0, none⟩)) y = some HT := by
    have h : HS.store ⟨r, 0, none⟩ y = some HT := by rw [hHT]; exact vRS.store 0 y (by simp)
    rw [hy] at h ⊢; simp [h]
  have on1T : On H1 HT := by rw [hHT]; exact (onR.trans onS).put (by omega) _
  have onBT : On HB HT := on1.trans on1T
  have hBn := on1.next
  have pn := w1.lt vm1.v.bq
  obtain ⟨ow, how⟩ : ∃ o : Nat → Nat, o = fun b => if b < HB.next then 9999 else if b = p then 14 else if b < r then 15 else if b = r then 10 else 11 := ⟨_, rfl⟩
  have ycl : ∀ b, blkOf yc = some b → b < H1.next := fun b e => by
    rcases rc1 with ⟨rfl, h0⟩ | ⟨b', off, c, rfl, hh⟩
    · cases e
    · cases e
      have h0 : 0 < (code.map rowI).length := by simp; omega
      have := (hh 0 h0).2 0 (by simp [rowI])
      exact load_lt w1 this
  have hnS : ¬ HR.next < HR.B := wR.next_ge
  have R : RunH HB HT ow p r yc (frst n i k) mem.length F code (startM n i k) ⟨mem, [], []⟩ y (.slice none 0 0) (.slice none 0 0) := by
    refine ⟨onBT, ⟨by rw [hHT]; exact vRS.put _, ?_, Own.nil _ _ _, Own.nil _ _ _, by rw [how]; simp [show ¬ r < HB.next by omega, show ¬ r = p by omega], fun b hb => ?_, fun b hb => by (cases hb), fun b hb => by (cases hb)⟩, vm1.on w1 on1T, Rws.keep w1 on1T.base on1T.keep rc1, by rw [how]; simp [show ¬ p < HB.next by omega], fun b hb => ?_, fun b hb => by rw [how]; simp [hb], ⟨fun _ => by simp [startM]; omega, by simp [startM]; omega, rfl, Nat.zero_le _, Nat.zero_le _⟩⟩
    · have h : Own HS 2 1 mem.length (ci mem) y := by
        rw [hy, ← nR]
        exact Own.mk (by simp [R14.ci_len]) (by rw [hHS]; simpa using hnS) (by rw [hHS]; simp [ci])
      exact h.keep (by rw [hHT]; simp) (fun b hb => by rw [hy] at hb; simp at hb; rw [hHT]; simp [show b ≠ r by omega])
    · rw [hy] at hb; simp at hb
      rw [how]; simp only; rw [if_neg (by omega), if_neg (by omega), if_neg (by omega), if_neg (by omega)]
    · have h1 := nyc b hb
      have h2 := ycl b hb
      rw [how]; simp only; rw [if_neg (by omega), if_neg h1.1, if_pos (by omega)]
  obtain ⟨fin, hfin⟩ : ∃ fin, fin = runM code mem.length F (F.toNat + 1) (startM n i k, ⟨mem, [], []⟩) := ⟨_, rfl⟩
  rw [← hfin]
  simp [← hHR, ← hr, r0, i0R, ap, sT]
  refine ⟨rfl, ?_⟩
  refine loop_at (InvR HB p r yc (frst n i k) mem.length F code fin (ptr (H.next + 1)) (ptr H.next)) (F.toNat + 1) ?_ ?_
  · exact ⟨_, _, ow, y, _, _, by simp, by simp, by simp, by simp, by simp, R, hfin.symm, fun _ => by simp [startM]; omega⟩
  refine roundR hok (by omega) hF ?_
  rintro t' H5 ⟨m, w, ow5, ym, yo, yi, u8, u7, u10, u12, u13, R5, hrun, _⟩
  simp only [runM] at hrun
  have L5 := R5.vm.l
  have lo := L5.o
  have lu := L5.u
  have ls := L5.s
  have w5 := R5.on.wf
  have vr5 := R5.wh.v
  have lrr := R5.wh.lr
  have brr := w5.lt vr5.bq
  obtain ⟨H6, hH6⟩ : ∃ H6, H6 = H5.put r [ym, yo, yi, iv m.over, iv 0, iv 0] := ⟨_, rfl⟩
  have s5 : H5.store ⟨r, 3, none⟩ (iv m.over) = some H6 := by rw [hH6]; exact vr5.store 3 (iv m.over) (by simp)
  have vr6 : Vr H6 r 120 6 [ym, yo, yi, iv m.over, iv 0, iv 0] := by rw [hH6]; exact vr5.put _
  obtain ⟨H7, hH7⟩ : ∃ H7, H7 = H6.put r [ym, yo, yi, iv m.over, iv m.value, iv 0] := ⟨_, rfl⟩
  have s6 : H6.store ⟨r, 4, none⟩ (iv m.value) = some H7 := by rw [hH7]; exact vr6.store 4 (iv m.value) (by simp)
  have vr7 : Vr H7 r 120 6 [ym, yo, yi, iv m.over, iv m.value, iv 0] := by rw [hH7]; exact vr6.put _
  obtain ⟨H8, hH8⟩ : ∃ H8, H8 = H7.put r [ym, yo, yi, iv m.over, iv m.value, iv m.steps] := ⟨_, rfl⟩
  have s7 : H7.store ⟨r, 5, none⟩ (iv m.steps) = some H8 := by rw [hH8]; exact vr7.store 5 (iv m.steps) (by simp)
  have vr8 : Vr H8 r 120 6 [ym, yo, yi, iv m.over, iv m.value, iv m.steps] := by rw [hH8]; exact vr7.put _
  have ld8 := vr8.loadA (m := 6) rfl
  have rB : HB.next ≤ r := by omega
  have onB8 : On HB H8 := by rw [hH8, hH7, hH6]; exact ((R5.on.put rB _).put rB _).put rB _
  have v88 := vB.on wB onB8
  have s8 := v88.storeA (m := 6) (by decide) [ym, yo, yi, iv m.over, iv m.value, iv m.steps] rfl rfl
  obtain ⟨H9, hH9⟩ : ∃ H9, H9 = H8.put (H.next + 1) [ym, yo, yi, iv m.over, iv m.value, iv m.steps] := ⟨_, rfl⟩
  have l9 : H9.loadN ⟨H.next + 1, 0, none⟩ 0 6 = some [ym, yo, yi, iv m.over, iv m.value, iv m.steps] := by rw [hH9]; exact (v88.put _).loadA rfl
  rw [← hH9] at s8
  have kp : ∀ b, ow5 b ≠ 9999 → b ≠ r → H9.blk b = H5.blk b := fun b h1 h2 => by
    have h3 : b ≠ H.next + 1 := fun e => h1 (R5.old b (by omega))
    rw [hH9, hH8, hH7, hH6]; simp [h2, h3]
  have b9 : H9.B = H5.B := by rw [hH9, hH8, hH7, hH6]; simp
  have fin9 : RunVQ H fin (.ret (.tuple #[.agg #[ym, yo, yi, iv m.over, iv m.value, iv m.steps], iv 0])) H9 := by
    rw [← hrun]
    refine ⟨by rw [hH9]; exact (onHB.trans onB8).put (by omega) _, ym, yo, yi, rfl, R5.wh.m.keep b9 (fun b hb => kp b ?_ ?_), R5.wh.o.keep b9 (fun b hb => kp b ?_ ?_), R5.wh.n.keep b9 (fun b hb => kp b ?_ ?_), fun b hb => ?_⟩
    · have := R5.wh.lm b hb; omega
    · intro e; have := R5.wh.lm b hb; rw [e] at this; omega
    · have := R5.wh.lo b hb; omega
    · intro e; have := R5.wh.lo b hb; rw [e] at this; omega
    · have := R5.wh.li b hb; omega
    · intro e; have := R5.wh.li b hb; rw [e] at this; omega
    · have hl : ow5 b ≠ 9999 := by
        rcases hb with h | h | h
        · have := R5.wh.lm b h; omega
        · have := R5.wh.lo b h; omega
        · have := R5.wh.li b h; omega
      by_cases e : b < HB.next
      · exact absurd (R5.old b e) hl
      · omega
  simp [u10, u12, lo, lu, ls, s5, s6, s7, ld8, u8, s8, l9]
  exact fin9
end Go.Proofs.Ytjkfghekdcalhaa
