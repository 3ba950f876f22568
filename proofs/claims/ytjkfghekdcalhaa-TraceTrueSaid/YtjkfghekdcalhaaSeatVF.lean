/-
  Chapter 27: the machine of a task: what the next instruction wants. Chapter 27: the machine of a task: its world: a want is done. Chapter 27: the machine of a task: made anew.
-/
import Derived.Test.YtjkfghekdcalhaaSeatVA
namespace Go.Proofs.Ytjkfghekdcalhaa
open Go.Ot Go.RowKit
open R14 (ci)
open I8 (In rowI)
set_option linter.unusedSimpArgs false
set_option linter.unusedVariables false
def wantV (code : List In) (W F : Int) (m : Ms) : Int × Int × Int :=
  if m.over ≠ 0 ∨ (m.steps : Int) = F then (0, 0, 0) else
  match code[m.at']? with
  | none => (0, 0, 0)
  | some x =>
    if x.kind = 6 ∧ okA W (addrV m x) = true then (1, addrV m x, 0) else if x.kind = 7 ∧ okA W (addrV m x) = true then (2, addrV m x, rg m x.a)
    else if x.kind = 8 then (3, x.c, rg m x.a) else if x.kind = 9 then (4, 0, rg m x.a) else (0, 0, 0)
theorem want_T {H : Heap} (hw : H.WF) {p : Nat} {m : Ms} {xc : Value} {W F : Int} {fs : List Value} (h : VmH H p m xc W F fs) {code : List In} (hc : Rws H 6 xc (code.map rowI)) (hok : CodeOk code) (hat : m.at' < code.length) (hlen : code.length ≤ 1000) :
    T Try.prog 48 [ptr p] H (.agg #[iv (wantV code W F m).1, iv (wantV code W F m).2.1, iv (wantV code W F m).2.2]) H := by
  refine T_seen hm light48 rfl ?_
  obtain ⟨HA, hHA⟩ : ∃ HA, HA = H.new 130 3 [iv 0, iv 0, iv 0] := ⟨_, rfl⟩
  have onA : On H HA := by rw [hHA]; exact (On.refl hw).new _ _ _
  have vA : Vr HA H.next 130 3 [iv 0, iv 0, iv 0] := by rw [hHA]; exact Vr.mk' hw _ _ _
  have nA : HA.next = H.next + 1 := by rw [hHA]; rfl
  have wA := onA.wf
  have hA := h.on hw onA
  have L := hA.l
  have lo := L.o
  have ls := L.s
  have lf := L.f
  obtain ⟨M, hM⟩ : ∃ M, M = wantV code W F m := ⟨_, rfl⟩
  rw [← hM]
  unfold wantV at hM
  obtain ⟨z, hz⟩ : ∃ z, z = (m.over != 0) := ⟨_, rfl⟩
  have sA := vA.storeA (m := 3) (by decide) [iv 0, iv 0, iv 0] rfl rfl
  rw [vA.same] at sA
  have lA := vA.loadA (m := 3) rfl
  cases z with
  | true =>
    rw [if_pos (.inl (by simpa using hz.symm))] at hM
    simp [L48, ← hHA, lo, ← hz, sA, lA, packV, hM]
    exact onA.keep
  | false =>
  have z0 : ¬ m.over ≠ 0 := by simpa using hz.symm
  obtain ⟨z2, hz2⟩ : ∃ z, z = ((m.steps : Int) == F) := ⟨_, rfl⟩
  cases z2 with
  | true =>
    rw [if_pos (.inr (by simpa using hz2.symm))] at hM
    simp [L48, ← hHA, lo, ← hz, ls, lf, ← hz2, sA, lA, packV, hM]
    exact onA.keep
  | false =>
  have z1 : ¬ (m.steps : Int) = F := by simpa using hz2.symm
  rw [if_neg (by simp only [not_or]; exact ⟨z0, z1⟩)] at hM
  obtain ⟨x, hx⟩ : ∃ x, x = code[m.at'] := ⟨_, rfl⟩
  have hcx : code[m.at']? = some x := by rw [hx]; exact List.getElem?_eq_getElem hat
  rw [hcx] at hM
  simp only at hM
  have xok := (hok m.at' hat).1
  rw [← hx] at xok
  have st := new_storeA wA 55 6 [iv 0, iv 0, iv 0, iv 0, iv 0, iv 0] (rowI x) rfl rfl (by decide)
  obtain ⟨HB, hHB⟩ : ∃ HB, HB = HA.new 55 6 [iv 0, iv 0, iv 0, iv 0, iv 0, iv 0] := ⟨_, rfl⟩
  obtain ⟨HC, hHC⟩ : ∃ HC, HC = HA.new 55 6 (rowI x) := ⟨_, rfl⟩
  have onB : On HA HB := by rw [hHB]; exact (On.refl wA).new _ _ _
  have onC : On HA HC := by rw [hHC]; exact (On.refl wA).new _ _ _
  have vC : Vr HC (H.next + 1) 55 6 (rowI x) := by rw [hHC, ← nA]; exact Vr.mk' wA _ _ _
  rw [← hHB, ← hHC, nA] at st
  have LB := (hA.on wA onB).l
  have hC := hA.on wA onC
  have wC := onC.wf
  have la := L.a
  have lc := L.c
  have laB := LB.a
  have lcB := LB.c
  have hi2 : m.at' < (code.map rowI).length := by simpa using hat
  have hcA := Rws.keep hw onA.base onA.keep hc
  obtain ⟨b, off, c, hxb, _, ldx, _⟩ := hcA.at hi2
  obtain ⟨b', off', c', hxb', _, ldxB, _⟩ := (Rws.keep wA onB.base onB.keep hcA).at hi2
  have exb := hxb.symm.trans hxb'
  simp only [Value.slice.injEq, Option.some.injEq, Addr.mk.injEq] at exb
  obtain ⟨⟨rfl, rfl, _⟩, _, _⟩ := exb
  simp only [List.getElem_map, List.length_map, ← hx] at ldx ldxB hxb
  have hatI : (m.at' : Int) < (code.length : Int) := by omega
  rw [hxb] at lc lcB
  have k0 : HC.load ⟨H.next + 1, 0, none⟩ = some (iv x.kind) := vC.load 0
  have k2 : HC.load ⟨H.next + 1, 2, none⟩ = some (iv x.a) := vC.load 2
  have k4 : HC.load ⟨H.next + 1, 4, none⟩ = some (iv x.c) := vC.load 4
  have kA : HC.loadN ⟨H.next + 1, 0, none⟩ 0 6 = some [iv x.kind, iv x.op, iv x.a, iv x.b, iv x.c, iv x.k] := vC.loadA rfl
  have aT := addr_T wC hC x xok.b
  obtain ⟨i, hi⟩ : ∃ i : Nat, x.a = i := ⟨x.a.toNat, by have := xok.a; omega⟩
  have ix := ix16 (p := p) (i := i) (by have := xok.a; omega)
  have ri := hC.reg (i := i) (by have := xok.a; omega)
  rw [hi] at k2 hM
  obtain ⟨a, hav⟩ : ∃ a, a = addrV m x := ⟨_, rfl⟩
  obtain ⟨q, hq⟩ : ∃ q, q = okA W a := ⟨_, rfl⟩
  rw [← hav] at aT hM
  rw [← hq] at aT hM
  -- the answer is laid down
  have onHC := onA.trans onC
  have vAC : Vr HC H.next 130 3 [iv 0, iv 0, iv 0] := vA.on wA onC
  have lay : ∀ r1 r2 r3 : Int, ∃ HD, sStore HC 3 (ptr H.next) (.agg #[iv r1, iv r2, iv r3]) = some HD ∧ HD.loadN ⟨H.next, 0, none⟩ 0 3 = some [iv r1, iv r2, iv r3] ∧ ∀ b, b < H.next → HD.blk b = H.blk b := fun r1 r2 r3 => by
    refine ⟨_, vAC.storeA (m := 3) (by decide) [iv r1, iv r2, iv r3] rfl rfl, (vAC.put _).loadA rfl, fun b hb => ?_⟩
    simp [show b ≠ H.next by omega, onHC.keep b hb]
  simp only [rowI] at st ldx ldxB aT
  simp [L48, ← hHA, lo, ← hz, ls, lf, ← hz2, nA, la, lc, laB, lcB, hat, hatI, ldx, ldxB, ← hHB, st, kA]
  refine goT_of aT ?_
  by_cases h6 : x.kind = 6
  · have e6 : (x.kind == 6) = true := by simp [h6]
    have e7 : (x.kind == 7) = false := by simp; omega
    have e8 : (x.kind == 8) = false := by simp; omega
    have e9 : (x.kind == 9) = false := by simp; omega
    cases q with
    | true =>
      rw [if_pos ⟨h6, rfl⟩] at hM
      obtain ⟨HD, sD, lD, kD⟩ := lay 1 a 0
      simp [k0, e6, sD, lD, packV, hM]
      exact kD
    | false =>
      rw [if_neg (by simp), if_neg (by simp), if_neg (by omega), if_neg (by omega)] at hM
      obtain ⟨HD, sD, lD, kD⟩ := lay 0 0 0
      simp [k0, e6, e7, e8, e9, sD, lD, packV, hM]
      exact kD
  have e6 : (x.kind == 6) = false := by simp [h6]
  by_cases h7 : x.kind = 7
  · have e7 : (x.kind == 7) = true := by simp [h7]
    have e8 : (x.kind == 8) = false := by simp; omega
    have e9 : (x.kind == 9) = false := by simp; omega
    cases q with
    | true =>
      rw [if_neg (by simp [h6]), if_pos ⟨h7, rfl⟩] at hM
      obtain ⟨HD, sD, lD, kD⟩ := lay 2 a (rg m i)
      simp [k0, e6, e7, k2, ix, ri, sD, lD, packV, hM]
      exact kD
    | false =>
      rw [if_neg (by simp), if_neg (by simp), if_neg (by omega), if_neg (by omega)] at hM
      obtain ⟨HD, sD, lD, kD⟩ := lay 0 0 0
      simp [k0, e6, e7, e8, e9, sD, lD, packV, hM]
      exact kD
  have e7 : (x.kind == 7) = false := by simp [h7]
  rw [if_neg (by simp [h6]), if_neg (by simp [h7])] at hM
  by_cases h8 : x.kind = 8
  · have e8 : (x.kind == 8) = true := by simp [h8]
    rw [if_pos h8] at hM
    obtain ⟨HD, sD, lD, kD⟩ := lay 3 x.c (rg m i)
    simp [k0, e6, e7, e8, k2, k4, ix, ri, sD, lD, packV, hM]
    exact kD
  have e8 : (x.kind == 8) = false := by simp [h8]
  rw [if_neg h8] at hM
  by_cases h9 : x.kind = 9
  · have e9 : (x.kind == 9) = true := by simp [h9]
    rw [if_pos h9] at hM
    obtain ⟨HD, sD, lD, kD⟩ := lay 4 0 (rg m i)
    simp [k0, e6, e7, e8, e9, k2, ix, ri, sD, lD, packV, hM]
    exact kD
  have e9 : (x.kind == 9) = false := by simp [h9]
  rw [if_neg h9] at hM
  obtain ⟨HD, sD, lD, kD⟩ := lay 0 0 0
  simp [k0, e6, e7, e8, e9, sD, lD, packV, hM]
  exact kD
end Go.Proofs.Ytjkfghekdcalhaa
namespace Go.Proofs.Ytjkfghekdcalhaa
open Go.Ot Go.RowKit
open R14 (ci)
open I8 (In rowI)
set_option linter.unusedSimpArgs false
set_option linter.unusedVariables false
theorem own_set {H : Heap} {ety : Nat} {l : List Int} {x : Value} (h : Own H ety 1 l.length (ci l) x) {i : Nat} (hi : i < l.length) (z : Int) :
    ∃ b cs, x = .slice (some ⟨b, 0, none⟩) l.length 0 ∧ H.store ⟨b, i, none⟩ (iv z) = some (H.put b cs) ∧ Own (H.put b cs) ety 1 l.length (ci (l.set i z)) x := by
  rcases h.2 with ⟨_, h0⟩ | ⟨b, rest, hb, hB, hk⟩
  · omega
  refine ⟨b, ci (l.set i z) ++ rest, hb, ?_, ⟨by simp [R14.ci_len], .inr ⟨b, rest, hb, by simpa using hB, by simp [hk]⟩⟩⟩
  rw [store_own hB hk, if_pos (by simp [R14.ci_len]; omega)]
  congr 2
  rw [List.set_append_left _ _ (by rw [R14.ci_len]; exact hi)]
  simp [ci, List.map_set]
/-- A plain memory, and what came out. -/
structure Wl where
  mem : List Int
  outs : List Int
  intos : List (Int × Int)
def giveV (w : Wl) (k a v : Int) : Wl × Int :=
  if k = 1 then (w, w.mem.getD a.toNat 0) else if k = 2 then ({ w with mem := w.mem.set a.toNat v }, 0) else if k = 3 then ({ w with intos := w.intos ++ [(a, v)] }, 0)
  else if k = 4 then ({ w with outs := w.outs ++ [v] }, 0) else (w, 0)
structure WH (H : Heap) (ow : Nat → Nat) (r : Nat) (w : Wl) (xm xo xi t3 t4 t5 : Value) : Prop where
  v : Vr H r 120 6 [xm, xo, xi, t3, t4, t5]
  m : Own H 2 1 w.mem.length (ci w.mem) xm
  o : Own H 2 1 w.outs.length (ci w.outs) xo
  n : Own H 97 2 w.intos.length (c2 w.intos) xi
  lr : ow r = 10
  lm : ∀ b, blkOf xm = some b → ow b = 11
  lo : ∀ b, blkOf xo = some b → ow b = 12
  li : ∀ b, blkOf xi = some b → ow b = 13
theorem WH.keep {H H' : Heap} (hw : H.WF) {ow ow' : Nat → Nat} {r : Nat} {w : Wl} {xm xo xi t3 t4 t5 : Value} (h : WH H ow r w xm xo xi t3 t4 t5) (hb : H'.base = H.base) (hk : ∀ b, b < H.next → 10 ≤ ow b → ow b ≤ 13 → H'.blk b = H.blk b) (ho : ∀ b, b < H.next → ow' b = ow b) : WH H' ow' r w xm xo xi t3 t4 t5 := by
  have br := hw.lt h.v.bq
  refine ⟨h.v.keep hb (hk r br (by have := h.lr; omega) (by have := h.lr; omega)), h.m.keep (B_eq hb) fun b hx => hk b (h.m.lt hw hx) ?_ ?_, h.o.keep (B_eq hb) fun b hx => hk b (h.o.lt hw hx) ?_ ?_, h.n.keep (B_eq hb) fun b hx => hk b (h.n.lt hw hx) ?_ ?_, by rw [ho r br]; exact h.lr,
    fun b hx => by rw [ho b (h.m.lt hw hx)]; exact h.lm b hx, fun b hx => by rw [ho b (h.o.lt hw hx)]; exact h.lo b hx, fun b hx => by rw [ho b (h.n.lt hw hx)]; exact h.li b hx⟩
  all_goals first | (have := h.lm b hx; omega) | (have := h.lo b hx; omega) | (have := h.li b hx; omega)
def GiveQ (H : Heap) (ow : Nat → Nat) (r : Nat) (w : Wl × Int) (t3 t4 t5 : Value) (o : Out) (H' : Heap) : Prop :=
  o = .ret (iv w.2) ∧ H'.WF ∧ H'.base = H.base ∧ H.next ≤ H'.next ∧ (∀ b, b < H.next → (ow b < 10 ∨ 13 < ow b) → H'.blk b = H.blk b) ∧ ∃ ow' xm xo xi, (∀ b, b < H.next → ow' b = ow b) ∧ WH H' ow' r w.1 xm xo xi t3 t4 t5
theorem give_E {H : Heap} (hw : H.WF) {ow : Nat → Nat} {r : Nat} {w : Wl} {xm xo xi t3 t4 t5 : Value} (h : WH H ow r w xm xo xi t3 t4 t5) (k a v : Int) (ha : k = 1 ∨ k = 2 → 0 ≤ a ∧ a < w.mem.length) (h1 : w.outs.length ≤ 100000) (h2 : w.intos.length ≤ 100000) :
    TE Try.prog 46 [ptr r, .agg #[iv k, iv a, iv v]] H (GiveQ H ow r (giveV w k a v) t3 t4 t5) := by
  refine TE_by hm light46 ?_
  obtain ⟨HA, hHA⟩ : ∃ HA, HA = H.new 130 3 [iv k, iv a, iv v] := ⟨_, rfl⟩
  have onA : On H HA := by rw [hHA]; exact (On.refl hw).new _ _ _
  have wA := onA.wf
  obtain ⟨vx, hvx⟩ : ∃ v, v = H.next := ⟨_, rfl⟩
  have nA : HA.next = vx + 1 := by rw [hHA, hvx]; rfl
  have vA : Vr HA vx 130 3 [iv k, iv a, iv v] := by rw [hHA, hvx]; exact Vr.mk' hw _ _ _
  obtain ⟨owA, howA⟩ : ∃ o, o = ow2 ow vx 20 := ⟨_, rfl⟩
  have hoA : ∀ b, b < H.next → owA b = ow b := fun b hb => by rw [howA]; unfold ow2; rw [if_neg (by omega)]
  have hA : WH HA owA r w xm xo xi t3 t4 t5 := h.keep hw onA.base (fun b hb _ _ => onA.keep b hb) hoA
  have a0 : HA.load ⟨vx, 0, none⟩ = some (iv k) := vA.load 0
  have a1 : HA.load ⟨vx, 1, none⟩ = some (iv a) := vA.load 1
  have a2 : HA.load ⟨vx, 2, none⟩ = some (iv v) := vA.load 2
  have r0 : HA.load ⟨r, 0, none⟩ = some xm := hA.v.load 0
  have r1 : HA.load ⟨r, 1, none⟩ = some xo := hA.v.load 1
  have r2 : HA.load ⟨r, 2, none⟩ = some xi := hA.v.load 2
  have lrA := hA.lr
  have brA := wA.lt hA.v.bq
  obtain ⟨G, hG⟩ : ∃ G, G = giveV w k a v := ⟨_, rfl⟩
  rw [← hG]
  unfold giveV at hG
  have z2 : zerosA [iv 0, iv 0] 2 = [iv 0, iv 0] := rfl
  have z1 : zerosA [iv 0] 1 = [iv 0] := rfl
  have e0 : (k == 1) = decide (k = 1) := rfl
  by_cases k1 : k = 1
  · rw [if_pos k1] at hG
    obtain ⟨g0, g1⟩ := ha (.inl k1)
    obtain ⟨i, hi⟩ : ∃ i : Nat, a = i := ⟨a.toNat, by omega⟩
    have hil : i < w.mem.length := by omega
    obtain ⟨b, off, c, hxm, ld⟩ := (Own.ints hA.m).at hil
    have gv : w.mem.getD a.toNat 0 = w.mem[i] := by rw [hi]; simp [List.getD, hil]
    rw [gv] at hG
    rw [hxm] at r0
    rw [hi] at a1
    have q1 : (k == 1) = true := by simp [k1]
    simp [L46, ← hHA, ← hvx, a0, q1, r0, a1, hil, ld]
    exact ⟨by rw [hG], wA, onA.base, onA.next, fun b hb _ => onA.keep b hb, owA, xm, xo, xi, hoA, by rw [hG]; exact hA⟩
  have q1 : (k == 1) = false := by simp [k1]
  rw [if_neg k1] at hG
  by_cases k2 : k = 2
  · rw [if_pos k2] at hG
    obtain ⟨g0, g1⟩ := ha (.inr k2)
    obtain ⟨i, hi⟩ : ∃ i : Nat, a = i := ⟨a.toNat, by omega⟩
    have hil : i < w.mem.length := by omega
    obtain ⟨b, cs, hxm, sm, om⟩ := own_set hA.m hil v
    have lb := hA.lm b (by rw [hxm]; rfl)
    have bb : b < HA.next := hA.m.lt wA (by rw [hxm]; rfl)
    have q2 : (k == 2) = true := by simp [k2]
    have hB : b ≠ vx := fun e => by rw [e, howA] at lb; simp [ow2] at lb
    have hai : a.toNat = i := by omega
    rw [hai] at hG
    rw [hxm] at r0
    rw [hi] at a1
    simp [L46, ← hHA, ← hvx, a0, q1, q2, r0, a1, a2, hil, sm]
    refine ⟨by rw [hG], WF_put wA _ _, onA.base, onA.next, fun c hc hl => ?_, owA, xm, xo, xi, hoA, ?_⟩
    · have : c ≠ b := fun e => by rw [← hoA c hc, e, lb] at hl; omega
      simp [this, onA.keep c hc]
    · rw [hG]
      refine ⟨hA.v.beside (fun e => by rw [e] at lrA; omega) _, by simpa using om, hA.o.keep (by simp) (fun c hc => ?_), hA.n.keep (by simp) (fun c hc => ?_), lrA, hA.lm, hA.lo, hA.li⟩
      · have := hA.lo c hc
        simp [show c ≠ b from fun e => by rw [e] at this; omega]
      · have := hA.li c hc
        simp [show c ≠ b from fun e => by rw [e] at this; omega]
  have q2 : (k == 2) = false := by simp [k2]
  rw [if_neg k2] at hG
  by_cases k3 : k = 3
  · rw [if_pos k3] at hG
    have q3 : (k == 3) = true := by simp [k3]
    obtain ⟨HC, ap, own, wf, base, next, keep⟩ := own_push wA 16 hA.n (e := [iv a, iv v]) rfl (by decide) (by omega)
    have kp : ∀ b, b < HA.next → owA b ≠ 13 → HC.blk b = HA.blk b := fun b hb hl => by rw [keep b (by omega) (fun e => hl (hA.li b e))]; simp [show b ≠ HA.next by omega]
    have vC : Vr HC r 120 6 [xm, xo, xi, t3, t4, t5] := hA.v.keep base (kp r brA (by omega))
    obtain ⟨y, hy⟩ : ∃ y : Value, y = .slice (some ⟨HA.next + 1, 0, none⟩) (w.intos.length + 1) 0 := ⟨_, rfl⟩
    rw [← hy] at ap own
    have sr : sStore HC 1 (.pointer (some ⟨r, 2, none⟩)) y = some (HC.put r [xm, xo, y, t3, t4, t5]) := by
      have h : HC.store ⟨r, 2, none⟩ y = some (HC.put r [xm, xo, y, t3, t4, t5]) := vC.store 2 y (by simp)
      rw [hy] at h ⊢; simp [h]
    have rB : (HA.new 97 2 [iv a, iv v]).load ⟨r, 2, none⟩ = some xi := (hA.v.on wA ((On.refl wA).new _ _ _)).load 2
    simp [L46, ← hHA, ← hvx, a0, q1, q2, q3, r2, rB, a1, a2, z2, ap, sr]
    refine ⟨by rw [hG], WF_put wf _ _, base.trans onA.base, by show H.next ≤ HC.next; rw [next]; have := onA.next; omega, fun c hc hl => ?_, ow2 owA (HA.next + 1) 13, xm, xo, y, fun b hb => by unfold ow2; rw [if_neg (by have := onA.next; omega)]; exact hoA b hb, ?_⟩
    · have hcA := Nat.lt_of_lt_of_le hc onA.next
      have hl2 := hl
      rw [← hoA c hc] at hl2
      have : c ≠ r := fun e => by rw [e, lrA] at hl2; omega
      simp [this, kp c hcA (by omega), onA.keep c hc]
    · rw [hG]
      have ho : ∀ b, b < HA.next → ow2 owA (HA.next + 1) 13 b = owA b := fun b hb => by unfold ow2; rw [if_neg (by omega)]
      refine ⟨vC.put _, hA.m.keep (by simp [B_eq base]) (fun c hc => ?_), hA.o.keep (by simp [B_eq base]) (fun c hc => ?_), ?_, by rw [ho r brA]; exact lrA, fun b hb => by rw [ho b (hA.m.lt wA hb)]; exact hA.lm b hb, fun b hb => by rw [ho b (hA.o.lt wA hb)]; exact hA.lo b hb, fun b hb => ?_⟩
      · have := hA.lm c hc
        simp [show c ≠ r from fun e => by rw [e] at this; omega, kp c (hA.m.lt wA hc) (by omega)]
      · have := hA.lo c hc
        simp [show c ≠ r from fun e => by rw [e] at this; omega, kp c (hA.o.lt wA hc) (by omega)]
      · show Own _ _ _ (w.intos ++ [(a, v)]).length (c2 (w.intos ++ [(a, v)])) _
        rw [List.length_append, List.length_singleton, c2_snoc]
        exact own.keep (by simp) (fun b hb => by rw [hy] at hb; simp at hb; simp [show b ≠ r by omega])
      · rw [hy] at hb; simp at hb; unfold ow2; rw [if_pos (by omega)]
  have q3 : (k == 3) = false := by simp [k3]
  rw [if_neg k3] at hG
  by_cases k4 : k = 4
  · rw [if_pos k4] at hG
    have q4 : (k == 4) = true := by simp [k4]
    obtain ⟨HC, ap, own, wf, base, next, keep⟩ := own_push wA 8 hA.o (e := [iv v]) rfl (by decide) (by omega)
    have kp : ∀ b, b < HA.next → owA b ≠ 12 → HC.blk b = HA.blk b := fun b hb hl => by rw [keep b (by omega) (fun e => hl (hA.lo b e))]; simp [show b ≠ HA.next by omega]
    have vC : Vr HC r 120 6 [xm, xo, xi, t3, t4, t5] := hA.v.keep base (kp r brA (by omega))
    obtain ⟨y, hy⟩ : ∃ y : Value, y = .slice (some ⟨HA.next + 1, 0, none⟩) (w.outs.length + 1) 0 := ⟨_, rfl⟩
    rw [← hy] at ap own
    have sr : sStore HC 1 (.pointer (some ⟨r, 1, none⟩)) y = some (HC.put r [xm, y, xi, t3, t4, t5]) := by
      have h : HC.store ⟨r, 1, none⟩ y = some (HC.put r [xm, y, xi, t3, t4, t5]) := vC.store 1 y (by simp)
      rw [hy] at h ⊢; simp [h]
    have rB : (HA.new 2 1 [iv v]).load ⟨r, 1, none⟩ = some xo := (hA.v.on wA ((On.refl wA).new _ _ _)).load 1
    simp [L46, ← hHA, ← hvx, a0, q1, q2, q3, q4, r1, rB, a1, a2, z1, ap, sr]
    refine ⟨by rw [hG], WF_put wf _ _, base.trans onA.base, by show H.next ≤ HC.next; rw [next]; have := onA.next; omega, fun c hc hl => ?_, ow2 owA (HA.next + 1) 12, xm, y, xi, fun b hb => by unfold ow2; rw [if_neg (by have := onA.next; omega)]; exact hoA b hb, ?_⟩
    · have hcA := Nat.lt_of_lt_of_le hc onA.next
      have hl2 := hl
      rw [← hoA c hc] at hl2
      have : c ≠ r := fun e => by rw [e, lrA] at hl2; omega
      simp [this, kp c hcA (by omega), onA.keep c hc]
    · rw [hG]
      have ho : ∀ b, b < HA.next → ow2 owA (HA.next + 1) 12 b = owA b := fun b hb => by unfold ow2; rw [if_neg (by omega)]
      refine ⟨vC.put _, hA.m.keep (by simp [B_eq base]) (fun c hc => ?_), ?_, hA.n.keep (by simp [B_eq base]) (fun c hc => ?_), by rw [ho r brA]; exact lrA, fun b hb => by rw [ho b (hA.m.lt wA hb)]; exact hA.lm b hb, fun b hb => ?_, fun b hb => by rw [ho b (hA.n.lt wA hb)]; exact hA.li b hb⟩
      · have := hA.lm c hc
        simp [show c ≠ r from fun e => by rw [e] at this; omega, kp c (hA.m.lt wA hc) (by omega)]
      · show Own _ _ _ (w.outs ++ [v]).length (ci (w.outs ++ [v])) _
        rw [List.length_append, List.length_singleton, R14.ci_append]
        exact own.keep (by simp) (fun b hb => by rw [hy] at hb; simp at hb; simp [show b ≠ r by omega])
      · have := hA.li c hc
        simp [show c ≠ r from fun e => by rw [e] at this; omega, kp c (hA.n.lt wA hc) (by omega)]
      · rw [hy] at hb; simp at hb; unfold ow2; rw [if_pos (by omega)]
  have q4 : (k == 4) = false := by simp [k4]
  rw [if_neg k4] at hG
  simp [L46, ← hHA, ← hvx, a0, q1, q2, q3, q4]
  exact ⟨by rw [hG], wA, onA.base, onA.next, fun b hb _ => onA.keep b hb, owA, xm, xo, xi, hoA, by rw [hG]; exact hA⟩
end Go.Proofs.Ytjkfghekdcalhaa
namespace Go.Proofs.Ytjkfghekdcalhaa
open Go.Ot Go.RowKit
open R14 (ci)
open I8 (In rowI)
set_option linter.unusedSimpArgs false
set_option linter.unusedVariables false
theorem rws_src {H : Heap} {sz : Nat} {x : Value} {l : List (List Value)} (hs : ∀ r ∈ l, r.length = sz) (h : Rws H sz x l) : srcCells H sz x = some (l.length, l.flatten) := by
  rcases h with ⟨rfl, rfl⟩ | ⟨b, off, c, rfl, hh⟩
  · rfl
  · rw [srcCells_slice]
    have hfl := flatten_len hs
    by_cases hsz : sz = 0
    · subst hsz
      have : l.flatten = [] := List.length_eq_zero_iff.1 (by rw [hfl]; omega)
      rw [this]
      simp [Heap.loadN]
    · have := loadN_cells (H := H) (b := b) (off := off) (l := l.flatten) (i := 0) (fun j hj => by
        rw [hfl] at hj
        have hq : j / sz < l.length := by
          rw [Nat.div_lt_iff_lt_mul (by omega)]; exact hj
        have hm' : j % sz < sz := Nat.mod_lt _ (by omega)
        obtain ⟨h1, h2⟩ := hh (j / sz) hq
        have h3 := h2 (j % sz) (by rw [h1]; exact hm')
        have h4 := flatten_get hs hq (j := j % sz) (by rw [h1]; exact hm')
        have hjj : j / sz * sz + j % sz = j := by rw [Nat.mul_comm]; exact Nat.div_add_mod j sz
        rw [hjj] at h4
        have hjl : j < l.flatten.length := by rw [hfl]; exact hj
        rw [List.getElem?_eq_getElem hjl] at h4
        have : off + 0 + j = off + j / sz * sz + j % sz := by omega
        rw [this, h3]
        exact h4.symm)
      rw [hfl] at this
      rw [this]
      rfl
/-- A machine ahead of its first instruction. -/
def startM (n i k : Int) : Ms := ⟨[n, i, k, 0, 0, 0, 0, 0, 0, 0, 0, 0, 0, 0, 0, 0], 0, 0, 0, 0⟩
def frst (n i k : Int) : List Value := [iv n, iv i, iv k, iv 0, iv 0, iv 0, iv 0, iv 0, iv 0, iv 0, iv 0, iv 0, iv 0, iv 0, iv 0, iv 0, iv 0, iv 0, iv 0, iv 0]
def NewQ2 (H : Heap) (code : List In) (W F n i k : Int) (o : Out) (H' : Heap) : Prop :=
  ∃ p xc, o = .ret (.tuple #[ptr p, iv 0]) ∧ On H H' ∧ H.next ≤ p ∧ VmH H' p (startM n i k) xc W F (frst n i k) ∧ Rws H' 6 xc (code.map rowI) ∧ ∀ b, blkOf xc = some b → b ≠ p ∧ H.next ≤ b
theorem newVM_E {H : Heap} (hw : H.WF) {xc : Value} {code : List In} (hc : Rws H 6 xc (code.map rowI)) (cells W F n i k : Int) (hv : (I8.checkV code cells).2 = 0) (hW : 1 ≤ W ∧ W ≤ 64) (hF : 1 ≤ F ∧ F ≤ 4000) :
    TE Try.prog 45 [xc, iv cells, iv W, iv F, iv n, iv i, iv k] H (NewQ2 H code W F n i k) := by
  refine TE_by hm light45 ?_
  have cT := chk_T hw hc cells
  rw [hv] at cT
  have hlen : code.length ≠ 0 ∧ code.length ≤ 600 := by
    unfold I8.checkV at hv
    split at hv
    · cases hv
    · omega
  have w1 : ¬ W < 1 := by omega
  have w2 : ¬ 64 < W := by omega
  have f1 : ¬ F < 1 := by omega
  have f2 : ¬ 4000 < F := by omega
  have hr6 : ∀ r ∈ code.map rowI, r.length = 6 := fun r hr => by simp at hr; obtain ⟨a, _, rfl⟩ := hr; rfl
  have src := rws_src hr6 hc
  have ap := append_nil (ety := 55) (bytes := 48) src (by simpa using hlen.1) (by simp; omega)
  obtain ⟨HA, hHA⟩ : ∃ HA, HA = H.new 55 6 (code.map rowI).flatten := ⟨_, rfl⟩
  obtain ⟨y, hy⟩ : ∃ y : Value, y = .slice (some ⟨H.next, 0, none⟩) (code.map rowI).length 0 := ⟨_, rfl⟩
  rw [← hHA, ← hy] at ap
  have onA : On H HA := by rw [hHA]; exact (On.refl hw).new _ _ _
  have wA := onA.wf
  have hnB := hw.next_ge
  have nA : HA.next = H.next + 1 := by rw [hHA]; rfl
  have ownA : Own HA 55 6 (code.map rowI).length (code.map rowI).flatten y := by
    rw [hy]
    exact Own.mk (flatten_len hr6) (by rw [hHA]; simpa using hnB) (by rw [hHA]; simp)
  have rowsA : Rws HA 6 y (code.map rowI) := ownA.rws hr6
  obtain ⟨p, hp⟩ : ∃ p, p = HA.next := ⟨_, rfl⟩
  obtain ⟨HB, hHB⟩ : ∃ HB, HB = HA.new 126 43 (vmC (startM 0 0 0) y W F (frst 0 0 0)) := ⟨_, rfl⟩
  have vB : Vr HB p 126 43 (vmC (startM 0 0 0) y W F (frst 0 0 0)) := by rw [hHB, hp]; exact Vr.mk' wA _ _ _
  have onB : On HA HB := by rw [hHB]; exact (On.refl wA).new _ _ _
  have hHB2 : HA.new 126 43 [iv 0, iv 0, iv 0, iv 0, iv 0, iv 0, iv 0, iv 0, iv 0, iv 0, iv 0, iv 0, iv 0, iv 0, iv 0, iv 0, iv 0, iv 0, iv 0, iv 0, y, iv W, iv F, iv 0, iv 0, iv 0, iv 0, iv 0, iv 0, iv 0, iv 0, iv 0, iv 0, iv 0, iv 0, iv 0, iv 0, iv 0, iv 0, iv 0, iv 0, iv 0, iv 0] = HB := hHB.symm
  have t1 : notTup y = true := by rw [hy]; rfl
  have t2 : y.cells.size = 1 := by rw [hy]; rfl
  have t3 : y.cells.toList = [y] := by rw [hy]; rfl
  obtain ⟨H1, hH1⟩ : ∃ H1, H1 = HB.put p (vmC (startM 0 0 0) y W F (frst n 0 0)) := ⟨_, rfl⟩
  have s1 : HB.store ⟨p, 23, none⟩ (iv n) = some H1 := by rw [hH1]; exact vB.store 23 (iv n) (by simp [startM, frst, R14.ci_len])
  have v1 : Vr H1 p 126 43 (vmC (startM 0 0 0) y W F (frst n 0 0)) := by rw [hH1]; exact vB.put _
  obtain ⟨H2, hH2⟩ : ∃ H2, H2 = H1.put p (vmC (startM 0 0 0) y W F (frst n i 0)) := ⟨_, rfl⟩
  have s2 : H1.store ⟨p, 24, none⟩ (iv i) = some H2 := by rw [hH2]; exact v1.store 24 (iv i) (by simp [startM, frst, R14.ci_len])
  have v2 : Vr H2 p 126 43 (vmC (startM 0 0 0) y W F (frst n i 0)) := by rw [hH2]; exact v1.put _
  obtain ⟨H3, hH3⟩ : ∃ H3, H3 = H2.put p (vmC (startM 0 0 0) y W F (frst n i k)) := ⟨_, rfl⟩
  have s3 : H2.store ⟨p, 25, none⟩ (iv k) = some H3 := by rw [hH3]; exact v2.store 25 (iv k) (by simp [startM, frst, R14.ci_len])
  have v3 : Vr H3 p 126 43 (vmC (startM 0 0 0) y W F (frst n i k)) := by rw [hH3]; exact v2.put _
  have ld : H3.loadN ⟨p, 23, none⟩ 0 20 = some (frst n i k) := by
    have := loadN_cells (H := H3) (b := p) (off := 23) (l := frst n i k) (i := 0) (fun j hj => by
      have hj20 : j < 20 := hj
      have h20 : (frst n i k).length = 20 := rfl
      rw [Nat.add_zero, v3.load, vmC, List.getElem?_append_right (by simp [startM, R14.ci_len]; omega), List.getElem?_append_right (by simp [startM, R14.ci_len]; omega)]
      have e : 23 + j - (ci (startM 0 0 0).regs).length - [iv (startM 0 0 0).at', iv (startM 0 0 0).steps, iv (startM 0 0 0).over, iv (startM 0 0 0).value, y, iv W, iv F].length = j := by simp [startM, R14.ci_len]; omega
      rw [e]
      exact List.getElem?_eq_getElem hj)
    exact this
  obtain ⟨H4, hH4⟩ : ∃ H4, H4 = H3.put p (vmC (startM n i k) y W F (frst n i k)) := ⟨_, rfl⟩
  have s4 : sStore H3 20 (.pointer (some ⟨p, 0, none⟩)) (.agg (frst n i k).toArray) = some H4 := by
    have v : Vr H3 p 126 43 ([] ++ (frst 0 0 0 ++ ([y, iv W, iv F] ++ frst n i k))) := v3
    have st := v.storeMid (new := frst n i k) rfl (by simp [frst])
    rw [hH4]
    exact st
  have v4 : Vr H4 p 126 43 (vmC (startM n i k) y W F (frst n i k)) := by rw [hH4]; exact v3.put _
  have on4 : On HA H4 := by rw [hH4, hH3, hH2, hH1]; exact (((onB.put (by omega) _).put (by omega) _).put (by omega) _).put (by omega) _
  have x0 : sIdxArr 16 1 (.pointer (some ⟨p, 23, none⟩)) (iv 0) = some (.pointer (some ⟨p, 23, none⟩)) := by simp [sIdxArr, add_own]
  have x1 : sIdxArr 16 1 (.pointer (some ⟨p, 23, none⟩)) (iv 1) = some (.pointer (some ⟨p, 24, none⟩)) := by simp [sIdxArr, add_own]
  have x2 : sIdxArr 16 1 (.pointer (some ⟨p, 23, none⟩)) (iv 2) = some (.pointer (some ⟨p, 25, none⟩)) := by simp [sIdxArr, add_own]
  have fin : NewQ2 H code W F n i k (.ret (.tuple #[ptr p, iv 0])) H4 := by
    refine ⟨p, y, rfl, onA.trans on4, by omega, ⟨v4, rfl, rfl⟩, Rws.keep wA on4.base on4.keep rowsA, fun b hb => ?_⟩
    rw [hy] at hb; simp at hb
    omega
  simp only [frst] at s4 ld
  simp [L45]
  refine goT_of cT ?_
  simp [w1, w2, f1, f2, ap, t1, t2, t3, hHB2, ← hp, x0, x1, x2, s1, s2, s3, ld, s4, packV]
  exact fin
end Go.Proofs.Ytjkfghekdcalhaa
