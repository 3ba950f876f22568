/-
  Chapter 27: numbers: what an operation makes of one, of two. Chapter 27: the machine of a task: what stands, and what a part of a step makes of it. Chapter 27: the machine of a task: a jump, a load or a store, what changes a register alone. Chapter 27: the machine of a task: what changes a register alone, or none. Chapter 27: the machine of a task: a step.
-/
import Derived.Test.YtjkfghekdcalhaaSeatC
namespace Go.Proofs.Ytjkfghekdcalhaa
open Go.Ot Go.RowKit
set_option linter.unusedSimpArgs false
set_option linter.unusedVariables false
def heldV (op a b : Int) : Int :=
  if (if op = 11 then a == b else if op = 12 then a != b else if op = 13 then decide (a < b) else if op = 14 then decide (a ≤ b) else if op = 15 then decide (b < a) else if op = 16 then decide (b ≤ a) else false) = true then 1 else 0
theorem held_T {H : Heap} (op a b : Int) : T Try.prog 70 [iv op, iv a, iv b] H (iv (heldV op a b)) H := by
  refine T_eq hm light70 ?_
  unfold heldV
  obtain ⟨e1, he1⟩ : ∃ e, e = (a == b) := ⟨_, rfl⟩
  obtain ⟨e2, he2⟩ : ∃ e, e = (a != b) := ⟨_, rfl⟩
  obtain ⟨e3, he3⟩ : ∃ e, e = decide (a < b) := ⟨_, rfl⟩
  obtain ⟨e4, he4⟩ : ∃ e, e = decide (a ≤ b) := ⟨_, rfl⟩
  obtain ⟨e5, he5⟩ : ∃ e, e = decide (b < a) := ⟨_, rfl⟩
  obtain ⟨e6, he6⟩ : ∃ e, e = decide (b ≤ a) := ⟨_, rfl⟩
  rw [← he1, ← he2, ← he3, ← he4, ← he5, ← he6]
  by_cases h1 : op = 11
  · subst h1; cases e1 <;> simp [L70, ← he1]
  by_cases h2 : op = 12
  · subst h2; cases e2 <;> simp [L70, ← he2]
  by_cases h3 : op = 13
  · subst h3; cases e3 <;> simp [L70, ← he3]
  by_cases h4 : op = 14
  · subst h4; cases e4 <;> simp [L70, ← he4]
  by_cases h5 : op = 15
  · subst h5; cases e5 <;> simp [L70, ← he5]
  by_cases h6 : op = 16
  · subst h6; cases e6 <;> simp [L70, ← he6]
  simp [L70, h1, h2, h3, h4, h5, h6]
def partsV (op a b : Int) : Int × Bool := if b = 0 then (0, false) else if op = 5 then (a.tmod b, true) else (IntKind.i64.wrap (a.tdiv b), true)
theorem parts_T {H : Heap} (op a b : Int) : T Try.prog 71 [iv op, iv a, iv b] H (.tuple #[iv (partsV op a b).1, .bool (partsV op a b).2]) H := by
  refine T_eq hm light71 ?_
  unfold partsV
  by_cases h1 : b = 0
  · simp [L71, h1, packV]
  have rm : sBin .rem (iv a) (iv b) = some (iv (a.tmod b)) := by rw [sBin_rem, if_neg h1]
  have qu : sBin .quo (iv a) (iv b) = some (iv (IntKind.i64.wrap (a.tdiv b))) := by simp [sBin, iBin, h1]
  by_cases h2 : op = 5
  · subst h2; simp [L71, h1, rm, packV]
  · simp [L71, h1, h2, qu, packV]
def notV (a : Int) : Int := IntKind.i64.wrap (BitVec.ofInt 64 (-1) ^^^ BitVec.ofInt 64 a).toNat
theorem sUn_not (a : Int) : sUn .xor (iv a) = some (iv (notV a)) := rfl
def oneN (op a : Int) : Int × Bool := if op = 19 then (IntKind.i64.wrap (0 - a), true) else if op = 20 then (notV a, true) else if op = 21 then ((if a = 0 then 1 else 0), true) else (0, false)
theorem oneN_T {H : Heap} (op a : Int) : T Try.prog 66 [iv op, iv a] H (.tuple #[iv (oneN op a).1, .bool (oneN op a).2]) H := by
  refine T_eq hm light66 ?_
  unfold oneN
  have sx := sUn_not a
  by_cases h1 : op = 19
  · subst h1; simp [L66, packV, sUn]
  by_cases h2 : op = 20
  · subst h2; simp [L66, packV, sx]
  by_cases h3 : op = 21
  · subst h3
    by_cases h0 : a = 0
    · simp [L66, packV, h0]
    · simp [L66, packV, h0]
  simp [L66, packV, h1, h2, h3]
def b63 (b : Int) : Int := IntKind.u64.wrap (IntKind.i64.wrap (BitVec.ofInt 64 b &&& BitVec.ofInt 64 63).toNat)
theorem b63_ge (b : Int) : ¬ b63 b < 0 := by
  unfold b63
  generalize IntKind.i64.wrap _ = n
  simp only [IntKind.wrap, IntKind.bits, IntKind.signed]
  simp
  omega
def shlV (a b : Int) : Int := IntKind.i64.wrap (a * 2 ^ min (b63 b).toNat 64)
def shrV (a b : Int) : Int := a.fdiv (2 ^ min (b63 b).toNat 64)
theorem sBin_shl (a b : Int) : sBin .shl (iv a) (.int .u64 (b63 b)) = some (iv (shlV a b)) := by simp [sBin, b63_ge, shlV, IntKind.bits]
theorem sBin_shr (a b : Int) : sBin .shr (iv a) (.int .u64 (b63 b)) = some (iv (shrV a b)) := by simp [sBin, b63_ge, shrV, IntKind.bits]
def twoN (op a b : Int) : Int × Bool :=
  if 11 ≤ op ∧ op ≤ 16 then (heldV op a b, true) else if op = 1 then (IntKind.i64.wrap (a + b), true) else if op = 2 then (IntKind.i64.wrap (a - b), true) else if op = 3 then (IntKind.i64.wrap (a * b), true)
  else if op = 4 ∨ op = 5 then partsV op a b else if op = 6 then (IntKind.i64.wrap (BitVec.ofInt 64 a &&& BitVec.ofInt 64 b).toNat, true) else if op = 7 then (IntKind.i64.wrap (BitVec.ofInt 64 a ||| BitVec.ofInt 64 b).toNat, true)
  else if op = 8 then (IntKind.i64.wrap (BitVec.ofInt 64 a ^^^ BitVec.ofInt 64 b).toNat, true) else if op = 9 then (shlV a b, true) else if op = 10 then (shrV a b, true)
  else if op = 17 then ((if b < a then b else a), true) else if op = 18 then ((if a < b then b else a), true) else (0, false)
theorem twoN_T {H : Heap} (op a b : Int) : T Try.prog 67 [iv op, iv a, iv b] H (.tuple #[iv (twoN op a b).1, .bool (twoN op a b).2]) H := by
  refine T_eq hm light67 ?_
  unfold twoN
  by_cases hh : 11 ≤ op ∧ op ≤ 16
  · obtain ⟨h1, h2⟩ := hh
    simp [L67, h1, h2]
    refine goT_of (held_T op a b) ?_
    simp [packV]
  have sl := sBin_shl a b
  have sr := sBin_shr a b
  have an : sBin .and (iv a) (iv b) = some (iv (IntKind.i64.wrap (BitVec.ofInt 64 a &&& BitVec.ofInt 64 b).toNat)) := rfl
  have oo : sBin .or (iv a) (iv b) = some (iv (IntKind.i64.wrap (BitVec.ofInt 64 a ||| BitVec.ofInt 64 b).toNat)) := rfl
  have xx : sBin .xor (iv a) (iv b) = some (iv (IntKind.i64.wrap (BitVec.ofInt 64 a ^^^ BitVec.ofInt 64 b).toNat)) := rfl
  obtain ⟨q63, hq⟩ : ∃ q, q = IntKind.i64.wrap (BitVec.ofInt 64 b &&& BitVec.ofInt 64 63).toNat := ⟨_, rfl⟩
  have a63 : sBin .and (iv b) (iv 63) = some (iv q63) := by rw [hq]; rfl
  have u63 : IntKind.u64.wrap q63 = b63 b := by rw [hq]; rfl
  have pT := parts_T (H := H) op a b
  rw [if_neg hh]
  by_cases h1 : op = 1
  · subst h1; simp [L67, packV]
  by_cases h2 : op = 2
  · subst h2; simp [L67, packV]
  by_cases h3 : op = 3
  · subst h3; simp [L67, packV]
  by_cases h4 : op = 4
  · subst h4
    simp [L67]
    refine goT_of pT ?_
    simp [packV]
  by_cases h5 : op = 5
  · subst h5
    simp [L67]
    refine goT_of pT ?_
    simp [packV]
  by_cases h6 : op = 6
  · subst h6; simp [L67, packV, an]
  by_cases h7 : op = 7
  · subst h7; simp [L67, packV, oo]
  by_cases h8 : op = 8
  · subst h8; simp [L67, packV, xx]
  by_cases h9 : op = 9
  · subst h9; simp [L67, packV, a63, u63, sl]
  by_cases h10 : op = 10
  · subst h10; simp [L67, packV, a63, u63, sr]
  by_cases h17 : op = 17
  · subst h17; simp [L67, packV, sMM, sMinMax]
  by_cases h18 : op = 18
  · subst h18; simp [L67, packV, sMM, sMinMax]
  have hc : ¬ 11 ≤ op ∨ ¬ op ≤ 16 := by omega
  rcases hc with hc | hc
  · simp [L67, packV, hc, h1, h2, h3, h4, h5, h6, h7, h8, h9, h10, h17, h18]
  · by_cases h11 : 11 ≤ op
    · simp [L67, packV, hc, h11, h1, h2, h3, h4, h5, h6, h7, h8, h9, h10, h17, h18]
    · simp [L67, packV, h11, h1, h2, h3, h4, h5, h6, h7, h8, h9, h10, h17, h18]
end Go.Proofs.Ytjkfghekdcalhaa
namespace Go.Proofs.Ytjkfghekdcalhaa
open Go.Ot Go.RowKit
open R14 (ci)
open I8 (In rowI)
set_option linter.unusedSimpArgs false
set_option linter.unusedVariables false
/-- A machine's state. -/
structure Ms where
  regs : List Int
  at' : Nat
  steps : Nat
  over : Int
  value : Int
def rg (m : Ms) (i : Int) : Int := m.regs.getD i.toNat 0
abbrev vmC (m : Ms) (xc : Value) (W F : Int) (fs : List Value) : List Value := ci m.regs ++ ([iv m.at', iv m.steps, iv m.over, iv m.value, xc, iv W, iv F] ++ fs)
structure VmH (H : Heap) (p : Nat) (m : Ms) (xc : Value) (W F : Int) (fs : List Value) : Prop where
  v : Vr H p 126 43 (vmC m xc W F fs)
  r : m.regs.length = 16
  f : fs.length = 20
theorem VmH.tail {H : Heap} {p : Nat} {m : Ms} {xc : Value} {W F : Int} {fs : List Value} (h : VmH H p m xc W F fs) (j : Nat) : H.load ⟨p, 16 + j, none⟩ = ([iv m.at', iv m.steps, iv m.over, iv m.value, xc, iv W, iv F] ++ fs)[j]? := by
  rw [h.v.load, vmC, List.getElem?_append_right (by rw [R14.ci_len, h.r]; omega), R14.ci_len, h.r, show 16 + j - 16 = j by omega]
structure VL (H : Heap) (p : Nat) (m : Ms) (xc : Value) (W F : Int) : Prop where
  a : H.load ⟨p, 16, none⟩ = some (iv m.at')
  s : H.load ⟨p, 17, none⟩ = some (iv m.steps)
  o : H.load ⟨p, 18, none⟩ = some (iv m.over)
  u : H.load ⟨p, 19, none⟩ = some (iv m.value)
  c : H.load ⟨p, 20, none⟩ = some xc
  w : H.load ⟨p, 21, none⟩ = some (iv W)
  f : H.load ⟨p, 22, none⟩ = some (iv F)
theorem VmH.l {H : Heap} {p : Nat} {m : Ms} {xc : Value} {W F : Int} {fs : List Value} (h : VmH H p m xc W F fs) : VL H p m xc W F :=
  ⟨h.tail 0, h.tail 1, h.tail 2, h.tail 3, h.tail 4, h.tail 5, h.tail 6⟩
theorem VmH.reg {H : Heap} {p : Nat} {m : Ms} {xc : Value} {W F : Int} {fs : List Value} (h : VmH H p m xc W F fs) {i : Nat} (hi : i < 16) : H.load ⟨p, i, none⟩ = some (iv (rg m i)) := by
  have h1 : i < m.regs.length := by rw [h.r]; exact hi
  rw [h.v.load, vmC, List.getElem?_append_left (by rw [R14.ci_len, h.r]; exact hi)]
  simp [ci, rg, List.getD, h1]
theorem vm_len {m : Ms} {xc : Value} {W F : Int} {fs : List Value} (r : m.regs.length = 16) (f : fs.length = 20) : (vmC m xc W F fs).length = 43 := by simp [R14.ci_len, r, f]
/-- A register is set. -/
def setR (m : Ms) (i : Int) (n : Int) : Ms := { m with regs := m.regs.set i.toNat n }
theorem VmH.setReg {H : Heap} {p : Nat} {m : Ms} {xc : Value} {W F : Int} {fs : List Value} (h : VmH H p m xc W F fs) {i : Nat} (hi : i < 16) (n : Int) : ∃ H', H.store ⟨p, i, none⟩ (iv n) = some H' ∧ VmH H' p (setR m i n) xc W F fs ∧ H' = H.put p (vmC (setR m i n) xc W F fs) := by
  have e : (vmC m xc W F fs).set i (iv n) = vmC (setR m i n) xc W F fs := by
    rw [vmC, List.set_append_left _ _ (by rw [R14.ci_len, h.r]; exact hi)]
    simp [vmC, ci, setR, List.map_set]
  refine ⟨_, by rw [h.v.store i (iv n) (by rw [vm_len h.r h.f]; omega), e], ⟨h.v.put _, by simp [setR, h.r], h.f⟩, rfl⟩
theorem VmH.setTail {H : Heap} {p : Nat} {m m' : Ms} {xc : Value} {W F : Int} {fs : List Value} (h : VmH H p m xc W F fs) (j : Nat) (hj : j < 4) (v : Value) (hr : m'.regs = m.regs) (he : [iv m.at', iv m.steps, iv m.over, iv m.value].set j v = [iv m'.at', iv m'.steps, iv m'.over, iv m'.value]) :
    ∃ H', H.store ⟨p, 16 + j, none⟩ v = some H' ∧ VmH H' p m' xc W F fs ∧ H' = H.put p (vmC m' xc W F fs) := by
  have e : (vmC m xc W F fs).set (16 + j) v = vmC m' xc W F fs := by
    have e1 : ∀ z : Ms, vmC z xc W F fs = ci z.regs ++ ([iv z.at', iv z.steps, iv z.over, iv z.value] ++ ([xc, iv W, iv F] ++ fs)) := fun z => by simp
    rw [e1, e1, List.set_append_right _ _ (by rw [R14.ci_len, h.r]; omega), R14.ci_len, h.r, show 16 + j - 16 = j by omega, List.set_append_left _ _ (by simpa using hj), he, hr]
  exact ⟨_, by rw [h.v.store (16 + j) v (by rw [vm_len h.r h.f]; omega), e], ⟨h.v.put _, by rw [hr]; exact h.r, h.f⟩, rfl⟩
theorem VmH.on {H H1 : Heap} (hw : H.WF) {p : Nat} {m : Ms} {xc : Value} {W F : Int} {fs : List Value} (h : VmH H p m xc W F fs) (o : On H H1) : VmH H1 p m xc W F fs := ⟨h.v.on hw o, h.r, h.f⟩
/-- What a part of a step answers: nothing; the machine has another state. -/
def VmQ (H : Heap) (p : Nat) (m : Ms) (xc : Value) (W F : Int) (fs : List Value) (o : Out) (H' : Heap) : Prop := o = .ret (.tuple #[]) ∧ Fr H H' p ∧ VmH H' p m xc W F fs
def endV (m : Ms) (how v : Int) : Ms := { m with over := how, value := v }
theorem end_E {H : Heap} (hw : H.WF) {p : Nat} {m : Ms} {xc : Value} {W F : Int} {fs : List Value} (h : VmH H p m xc W F fs) (how v : Int) : TE Try.prog 57 [ptr p, iv how, iv v] H (VmQ H p (endV m how v) xc W F fs) := by
  refine TE_by hm light57 ?_
  obtain ⟨H1, s1, h1, e1⟩ := h.setTail (m' := { m with over := how }) 2 (by decide) (iv how) rfl rfl
  obtain ⟨H2, s2, h2, e2⟩ := h1.setTail (m' := endV m how v) 3 (by decide) (iv v) rfl rfl
  have s1' : H.store ⟨p, 18, none⟩ (iv how) = some H1 := s1
  have s2' : H1.store ⟨p, 19, none⟩ (iv v) = some H2 := s2
  simp [L57, s1', s2', packV]
  exact ⟨rfl, by rw [e2, e1]; exact ((Fr.refl hw p).put _).put _, h2⟩
def addrV (m : Ms) (x : In) : Int := IntKind.i64.wrap (rg m x.b + x.k)
def okA (W a : Int) : Bool := decide (0 ≤ a) && decide (a < W)
theorem ix16 {p i : Nat} (hi : i < 16) : sIdxArr 16 1 (.pointer (some ⟨p, 0, none⟩)) (iv i) = some (.pointer (some ⟨p, i, none⟩)) := by
  have c1 : (0 : Int) ≤ i ∧ (i : Int) < 16 := by omega
  simp [sIdxArr, c1, add_own, hi]
theorem addr_T {H : Heap} (hw : H.WF) {p : Nat} {m : Ms} {xc : Value} {W F : Int} {fs : List Value} (h : VmH H p m xc W F fs) (x : In) (hb : 0 ≤ x.b ∧ x.b < 16) : T Try.prog 61 [ptr p, .agg (rowI x).toArray] H (.tuple #[iv (addrV m x), .bool (okA W (addrV m x))]) H := by
  refine T_seen hm light61 rfl ?_
  obtain ⟨HA, hHA⟩ : ∃ HA, HA = H.new 55 6 (rowI x) := ⟨_, rfl⟩
  have onA : On H HA := by rw [hHA]; exact (On.refl hw).new _ _ _
  have vA : Vr HA H.next 55 6 (rowI x) := by rw [hHA]; exact Vr.mk' hw _ _ _
  have hA := h.on hw onA
  have b3 : HA.load ⟨H.next, 3, none⟩ = some (iv x.b) := vA.load 3
  have b5 : HA.load ⟨H.next, 5, none⟩ = some (iv x.k) := vA.load 5
  obtain ⟨i, hi⟩ : ∃ i : Nat, x.b = i := ⟨x.b.toNat, by omega⟩
  have ri := hA.reg (i := i) (by omega)
  have ix := ix16 (p := p) (i := i) (by omega)
  have lw := hA.l.w
  rw [hi] at b3
  obtain ⟨a, ha⟩ : ∃ a, a = addrV m x := ⟨_, rfl⟩
  have ha' : IntKind.i64.wrap (rg m (i : Int) + x.k) = a := by rw [ha]; unfold addrV; rw [hi]
  rw [← ha]
  have hHA2 : H.new 55 6 [iv x.kind, iv x.op, iv x.a, iv x.b, iv x.c, iv x.k] = HA := hHA.symm
  unfold okA
  by_cases h0 : 0 ≤ a
  · simp [L61, rowI, hHA2, b3, ix, ri, b5, ha', h0, lw, packV]
    exact onA.keep
  · simp [L61, rowI, hHA2, b3, ix, ri, b5, ha', h0, packV]
    exact onA.keep
end Go.Proofs.Ytjkfghekdcalhaa
namespace Go.Proofs.Ytjkfghekdcalhaa
open Go.Ot Go.RowKit
open R14 (ci)
open I8 (In rowI)
set_option linter.unusedSimpArgs false
set_option linter.unusedVariables false
def nextV (m : Ms) : Ms := { m with at' := m.at' + 1 }
def branchV (m : Ms) (x : In) : Ms := if x.kind = 10 ∨ ((rg m x.a == 0) = (x.kind == 11)) then { m with at' := x.k.toNat } else nextV m
theorem next_s {H : Heap} {p : Nat} {m : Ms} {xc : Value} {W F : Int} {fs : List Value} (h : VmH H p m xc W F fs) : ∃ H', H.store ⟨p, 16, none⟩ (iv ((m.at' + 1 : Nat) : Int)) = some H' ∧ VmH H' p (nextV m) xc W F fs ∧ H' = H.put p (vmC (nextV m) xc W F fs) :=
  h.setTail (m' := nextV m) 0 (by decide) (iv ((m.at' + 1 : Nat) : Int)) rfl rfl
theorem branch_E {H : Heap} (hw : H.WF) {p : Nat} {m : Ms} {xc : Value} {W F : Int} {fs : List Value} (h : VmH H p m xc W F fs) (x : In) (ha : 0 ≤ x.a ∧ x.a < 16) (hk : 0 ≤ x.k) (hat : m.at' ≤ 100000) :
    TE Try.prog 59 [ptr p, .agg (rowI x).toArray] H (VmQ H p (branchV m x) xc W F fs) := by
  refine TE_by hm light59 ?_
  obtain ⟨HA, hHA⟩ : ∃ HA, HA = H.new 55 6 (rowI x) := ⟨_, rfl⟩
  have onA : On H HA := by rw [hHA]; exact (On.refl hw).new _ _ _
  have vA : Vr HA H.next 55 6 (rowI x) := by rw [hHA]; exact Vr.mk' hw _ _ _
  have hA := h.on hw onA
  have b0 : HA.load ⟨H.next, 0, none⟩ = some (iv x.kind) := vA.load 0
  have b2 : HA.load ⟨H.next, 2, none⟩ = some (iv x.a) := vA.load 2
  have b5 : HA.load ⟨H.next, 5, none⟩ = some (iv x.k) := vA.load 5
  obtain ⟨i, hi⟩ : ∃ i : Nat, x.a = i := ⟨x.a.toNat, by omega⟩
  have ri := hA.reg (i := i) (by omega)
  have ix := ix16 (p := p) (i := i) (by omega)
  rw [hi] at b2
  have la := hA.l.a
  have hHA2 : H.new 55 6 [iv x.kind, iv x.op, iv x.a, iv x.b, iv x.c, iv x.k] = HA := hHA.symm
  obtain ⟨z, hz⟩ : ∃ z, z = (rg m (i : Int) == 0) := ⟨_, rfl⟩
  obtain ⟨k10, hk10⟩ : ∃ z, z = (x.kind == 10) := ⟨_, rfl⟩
  obtain ⟨k11, hk11⟩ : ∃ z, z = (x.kind == 11) := ⟨_, rfl⟩
  obtain ⟨HJ, sJ, vJ, eJ⟩ := hA.setTail (m' := { m with at' := x.k.toNat }) 0 (by decide) (iv x.k) rfl (by simp; omega)
  obtain ⟨HN, sN, vN, eN⟩ := next_s hA
  have e1 : IntKind.i64.wrap ((m.at' : Int) + 1) = ((m.at' + 1 : Nat) : Int) := by rw [w64 _ (by omega)]; omega
  obtain ⟨c1, hc1⟩ : ∃ c : Nat, c = m.at' + 1 := ⟨_, rfl⟩
  rw [← hc1] at e1 sN
  have sJ' : HA.store ⟨p, 16, none⟩ (iv x.k) = some HJ := sJ
  have frA := (On.fr onA p)
  have goJ : x.kind = 10 ∨ ((rg m x.a == 0) = (x.kind == 11)) → VmQ H p (branchV m x) xc W F fs (.ret (.tuple #[])) HJ := fun hc => by
    unfold branchV
    rw [if_pos hc]
    exact ⟨rfl, by rw [eJ]; exact frA.put _, vJ⟩
  have goN : ¬ (x.kind = 10 ∨ ((rg m x.a == 0) = (x.kind == 11))) → VmQ H p (branchV m x) xc W F fs (.ret (.tuple #[])) HN := fun hc => by
    unfold branchV
    rw [if_neg hc]
    exact ⟨rfl, by rw [eN]; exact frA.put _, vN⟩
  rw [hi] at goJ goN
  rw [← hz, ← hk11] at goJ goN
  cases k10 with
  | true =>
    have h10 : x.kind = 10 := by simpa using hk10.symm
    simp [L59, rowI, hHA2, b2, ix, ri, b0, ← hk10, b5, sJ', packV]
    exact goJ (.inl h10)
  | false =>
    have h10 : ¬ x.kind = 10 := by simpa using hk10.symm
    by_cases hzk : z = k11
    · have e2 : (z == k11) = true := by simp [hzk]
      simp [L59, rowI, hHA2, b2, ix, ri, b0, ← hk10, ← hz, ← hk11, e2, b5, sJ', packV]
      exact goJ (.inr hzk)
    · have e2 : (z == k11) = false := by simp [hzk]
      simp [L59, rowI, hHA2, b2, ix, ri, b0, ← hk10, ← hz, ← hk11, e2, la, e1, sN, packV]
      exact goN (by simp [h10, hzk])
def memoryV (W : Int) (m : Ms) (x : In) (got : Int) : Ms := if okA W (addrV m x) = false then endV m 3 (addrV m x) else if x.kind = 6 then nextV (setR m x.a got) else nextV m
theorem memory_E {H : Heap} (hw : H.WF) {p : Nat} {m : Ms} {xc : Value} {W F : Int} {fs : List Value} (h : VmH H p m xc W F fs) (x : In) (ha : 0 ≤ x.a ∧ x.a < 16) (hb : 0 ≤ x.b ∧ x.b < 16) (hat : m.at' ≤ 100000) (got : Int) :
    TE Try.prog 58 [ptr p, .agg (rowI x).toArray, iv got] H (VmQ H p (memoryV W m x got) xc W F fs) := by
  refine TE_by hm light58 ?_
  obtain ⟨HA, hHA⟩ : ∃ HA, HA = H.new 55 6 (rowI x) := ⟨_, rfl⟩
  have onA : On H HA := by rw [hHA]; exact (On.refl hw).new _ _ _
  have vA : Vr HA H.next 55 6 (rowI x) := by rw [hHA]; exact Vr.mk' hw _ _ _
  have hA := h.on hw onA
  have wA := onA.wf
  have b0 : HA.load ⟨H.next, 0, none⟩ = some (iv x.kind) := vA.load 0
  have b2 : HA.load ⟨H.next, 2, none⟩ = some (iv x.a) := vA.load 2
  have bA : HA.loadN ⟨H.next, 0, none⟩ 0 6 = some [iv x.kind, iv x.op, iv x.a, iv x.b, iv x.c, iv x.k] := vA.loadA rfl
  obtain ⟨i, hi⟩ : ∃ i : Nat, x.a = i := ⟨x.a.toNat, by omega⟩
  have ix := ix16 (p := p) (i := i) (by omega)
  rw [hi] at b2
  have la := hA.l.a
  have hHA2 : H.new 55 6 [iv x.kind, iv x.op, iv x.a, iv x.b, iv x.c, iv x.k] = HA := hHA.symm
  have aT := addr_T wA hA x hb
  have frA := (On.fr onA p)
  have e1 : IntKind.i64.wrap ((m.at' : Int) + 1) = ((m.at' + 1 : Nat) : Int) := by rw [w64 _ (by omega)]; omega
  obtain ⟨a, hav⟩ : ∃ a, a = addrV m x := ⟨_, rfl⟩
  obtain ⟨M, hM⟩ : ∃ M, M = memoryV W m x got := ⟨_, rfl⟩
  rw [← hM]
  unfold memoryV at hM
  rw [← hav] at aT hM
  cases hok : okA W a with
  | false =>
    rw [if_pos hok] at hM
    rw [hok] at aT
    have eE := end_E wA hA 3 a
    simp [L58, rowI, hHA2, bA]
    refine goT_of aT ?_
    simp
    refine goA_of wA eE ?_
    rintro o H1 ⟨rfl, fr1, h1⟩ w1 b1 n1
    simp [packV]
    exact ⟨rfl, frA.trans fr1, by rw [hM]; exact h1⟩
  | true =>
    rw [if_neg (by simp [hok])] at hM
    rw [hok] at aT
    by_cases h6 : x.kind = 6
    · have e6 : (x.kind == 6) = true := by simp [h6]
      rw [if_pos h6, hi] at hM
      obtain ⟨H1, s1, h1, q1⟩ := hA.setReg (i := i) (by omega) got
      obtain ⟨H2, s2, h2, q2⟩ := next_s h1
      have la1 := h1.l.a
      have ea : (setR m i got).at' = m.at' := rfl
      rw [ea] at la1 s2
      obtain ⟨c1, hc1⟩ : ∃ c : Nat, c = m.at' + 1 := ⟨_, rfl⟩
      rw [← hc1] at e1 s2
      simp [L58, rowI, hHA2, bA]
      refine goT_of aT ?_
      simp [b0, e6, b2, ix, s1, la1, e1, s2, packV]
      exact ⟨rfl, by rw [q2, q1]; exact (frA.put _).put _, by rw [hM]; exact h2⟩
    · have e6 : (x.kind == 6) = false := by simp [h6]
      rw [if_neg h6] at hM
      obtain ⟨H2, s2, h2, q2⟩ := next_s hA
      obtain ⟨c1, hc1⟩ : ∃ c : Nat, c = m.at' + 1 := ⟨_, rfl⟩
      rw [← hc1] at e1 s2
      simp [L58, rowI, hHA2, bA]
      refine goT_of aT ?_
      simp [b0, e6, la, e1, s2, packV]
      exact ⟨rfl, by rw [q2]; exact frA.put _, by rw [hM]; exact h2⟩
end Go.Proofs.Ytjkfghekdcalhaa
namespace Go.Proofs.Ytjkfghekdcalhaa
open Go.Ot Go.RowKit
open R14 (ci)
open I8 (In rowI)
set_option linter.unusedSimpArgs false
set_option linter.unusedVariables false
def reckonV (m : Ms) (x : In) : Ms :=
  if x.kind = 2 then nextV (setR m x.a x.k) else if x.kind = 3 then nextV (setR m x.a (rg m x.b)) else if x.kind = 4 then nextV (setR m x.a (oneN x.op (rg m x.b)).1)
  else if x.kind = 5 then (if (twoN x.op (rg m x.b) (rg m x.c)).2 = true then nextV (setR m x.a (twoN x.op (rg m x.b) (rg m x.c)).1) else endV m 2 0) else nextV m
theorem reckon_E {H : Heap} (hw : H.WF) {p : Nat} {m : Ms} {xc : Value} {W F : Int} {fs : List Value} (h : VmH H p m xc W F fs) (x : In) (ha : 0 ≤ x.a ∧ x.a < 16) (hb : 0 ≤ x.b ∧ x.b < 16) (hc : 0 ≤ x.c ∧ x.c < 16) (hat : m.at' ≤ 100000) :
    TE Try.prog 60 [ptr p, .agg (rowI x).toArray] H (VmQ H p (reckonV m x) xc W F fs) := by
  refine TE_by hm light60 ?_
  obtain ⟨HA, hHA⟩ : ∃ HA, HA = H.new 55 6 (rowI x) := ⟨_, rfl⟩
  have onA : On H HA := by rw [hHA]; exact (On.refl hw).new _ _ _
  have vA : Vr HA H.next 55 6 (rowI x) := by rw [hHA]; exact Vr.mk' hw _ _ _
  have hA := h.on hw onA
  have wA := onA.wf
  have b0 : HA.load ⟨H.next, 0, none⟩ = some (iv x.kind) := vA.load 0
  have b1 : HA.load ⟨H.next, 1, none⟩ = some (iv x.op) := vA.load 1
  have b2 : HA.load ⟨H.next, 2, none⟩ = some (iv x.a) := vA.load 2
  have b3 : HA.load ⟨H.next, 3, none⟩ = some (iv x.b) := vA.load 3
  have b4 : HA.load ⟨H.next, 4, none⟩ = some (iv x.c) := vA.load 4
  have b5 : HA.load ⟨H.next, 5, none⟩ = some (iv x.k) := vA.load 5
  obtain ⟨i, hi⟩ : ∃ i : Nat, x.a = i := ⟨x.a.toNat, by omega⟩
  obtain ⟨j, hj⟩ : ∃ j : Nat, x.b = j := ⟨x.b.toNat, by omega⟩
  obtain ⟨k, hk⟩ : ∃ k : Nat, x.c = k := ⟨x.c.toNat, by omega⟩
  have ixi := ix16 (p := p) (i := i) (by omega)
  have ixj := ix16 (p := p) (i := j) (by omega)
  have ixk := ix16 (p := p) (i := k) (by omega)
  have rj := hA.reg (i := j) (by omega)
  have rk := hA.reg (i := k) (by omega)
  rw [hi] at b2
  rw [hj] at b3
  rw [hk] at b4
  have la := hA.l.a
  have hHA2 : H.new 55 6 [iv x.kind, iv x.op, iv x.a, iv x.b, iv x.c, iv x.k] = HA := hHA.symm
  have frA := (On.fr onA p)
  have e1 : IntKind.i64.wrap ((m.at' : Int) + 1) = ((m.at' + 1 : Nat) : Int) := by rw [w64 _ (by omega)]; omega
  obtain ⟨c1, hc1⟩ : ∃ c : Nat, c = m.at' + 1 := ⟨_, rfl⟩
  rw [← hc1] at e1
  obtain ⟨M, hM⟩ : ∃ M, M = reckonV m x := ⟨_, rfl⟩
  rw [← hM]
  unfold reckonV at hM
  rw [hi, hj, hk] at hM
  -- a register is set, and on
  have setN : ∀ n : Int, ∃ H1 H2, HA.store ⟨p, i, none⟩ (iv n) = some H1 ∧ H1.load ⟨p, 16, none⟩ = some (iv m.at') ∧ H1.store ⟨p, 16, none⟩ (iv (c1 : Int)) = some H2 ∧ Fr H H2 p ∧ VmH H2 p (nextV (setR m i n)) xc W F fs := fun n => by
    obtain ⟨H1, s1, h1, q1⟩ := hA.setReg (i := i) (by omega) n
    obtain ⟨H2, s2, h2, q2⟩ := next_s h1
    have ea : (setR m i n).at' = m.at' := rfl
    have la1 := h1.l.a
    rw [ea] at la1 s2
    rw [← hc1] at s2
    exact ⟨H1, H2, s1, la1, s2, by rw [q2, q1]; exact (frA.put _).put _, h2⟩
  by_cases h2 : x.kind = 2
  · have e2 : (x.kind == 2) = true := by simp [h2]
    rw [if_pos h2] at hM
    obtain ⟨H1, H2, s1, la1, s2, fr2, v2⟩ := setN x.k
    simp [L60, rowI, hHA2, b0, e2, b2, b5, ixi, s1, la1, e1, s2, packV]
    exact ⟨rfl, fr2, by rw [hM]; exact v2⟩
  have e2 : (x.kind == 2) = false := by simp [h2]
  rw [if_neg h2] at hM
  by_cases h3 : x.kind = 3
  · have e3 : (x.kind == 3) = true := by simp [h3]
    rw [if_pos h3] at hM
    obtain ⟨H1, H2, s1, la1, s2, fr2, v2⟩ := setN (rg m j)
    simp [L60, rowI, hHA2, b0, e2, e3, b2, b3, ixi, ixj, rj, s1, la1, e1, s2, packV]
    exact ⟨rfl, fr2, by rw [hM]; exact v2⟩
  have e3 : (x.kind == 3) = false := by simp [h3]
  rw [if_neg h3] at hM
  by_cases h4 : x.kind = 4
  · have e4 : (x.kind == 4) = true := by simp [h4]
    rw [if_pos h4] at hM
    have oT := oneN_T (H := HA) x.op (rg m j)
    obtain ⟨n, hn⟩ : ∃ n, n = (oneN x.op (rg m j)).1 := ⟨_, rfl⟩
    rw [← hn] at oT hM
    obtain ⟨H1, H2, s1, la1, s2, fr2, v2⟩ := setN n
    simp [L60, rowI, hHA2, b0, e2, e3, e4, b1, b2, b3, ixi, ixj, rj]
    refine goT_of oT ?_
    simp [b2, ixi, s1, la1, e1, s2, packV]
    exact ⟨rfl, fr2, by rw [hM]; exact v2⟩
  have e4 : (x.kind == 4) = false := by simp [h4]
  rw [if_neg h4] at hM
  by_cases h5 : x.kind = 5
  · have e5 : (x.kind == 5) = true := by simp [h5]
    rw [if_pos h5] at hM
    have oT := twoN_T (H := HA) x.op (rg m j) (rg m k)
    obtain ⟨n, hn⟩ : ∃ n, n = (twoN x.op (rg m j) (rg m k)).1 := ⟨_, rfl⟩
    obtain ⟨q, hq⟩ : ∃ q, q = (twoN x.op (rg m j) (rg m k)).2 := ⟨_, rfl⟩
    rw [← hn, ← hq] at oT hM
    cases q with
    | true =>
      rw [if_pos rfl] at hM
      obtain ⟨H1, H2, s1, la1, s2, fr2, v2⟩ := setN n
      simp [L60, rowI, hHA2, b0, e2, e3, e4, e5, b1, b2, b3, b4, ixi, ixj, ixk, rj, rk]
      refine goT_of oT ?_
      simp [b2, ixi, s1, la1, e1, s2, packV]
      exact ⟨rfl, fr2, by rw [hM]; exact v2⟩
    | false =>
      rw [if_neg (by simp)] at hM
      have eE := end_E wA hA 2 0
      simp [L60, rowI, hHA2, b0, e2, e3, e4, e5, b1, b2, b3, b4, ixi, ixj, ixk, rj, rk]
      refine goT_of oT ?_
      simp
      refine goA_of wA eE ?_
      rintro o H1 ⟨rfl, fr1, v1⟩ w1 b1' n1
      simp [packV]
      exact ⟨rfl, frA.trans fr1, by rw [hM]; exact v1⟩
  have e5 : (x.kind == 5) = false := by simp [h5]
  rw [if_neg h5] at hM
  obtain ⟨H2, s2, v2, q2⟩ := next_s hA
  rw [← hc1] at s2
  simp [L60, rowI, hHA2, b0, e2, e3, e4, e5, la, e1, s2, packV]
  exact ⟨rfl, by rw [q2]; exact frA.put _, by rw [hM]; exact v2⟩
end Go.Proofs.Ytjkfghekdcalhaa
namespace Go.Proofs.Ytjkfghekdcalhaa
open Go.Ot Go.RowKit
open R14 (ci)
open I8 (In rowI)
set_option linter.unusedSimpArgs false
set_option linter.unusedVariables false
/-- What stands of an instruction that may be. -/
structure InOk (x : In) (long : Nat) : Prop where
  a : 0 ≤ x.a ∧ x.a < 16
  b : 0 ≤ x.b ∧ x.b < 16
  c : 0 ≤ x.c ∧ x.c < 16
  k : (x.kind = 10 ∨ x.kind = 11 ∨ x.kind = 12) → 0 ≤ x.k ∧ x.k < long
def CodeOk (code : List In) : Prop := ∀ i (h : i < code.length), InOk code[i] code.length ∧ (i + 1 = code.length → code[i].kind = 1 ∨ code[i].kind = 10 ∨ code[i].kind = 13)
def stepV (code : List In) (W F : Int) (m : Ms) (got : Int) : Ms :=
  if m.over ≠ 0 then m else if (m.steps : Int) = F then endV m 5 0 else
  match code[m.at']? with
  | none => m
  | some x =>
    if x.kind = 1 then endV { m with steps := m.steps + 1 } 1 0 else if x.kind = 13 then endV { m with steps := m.steps + 1 } 4 (rg m x.a)
    else if x.kind = 6 ∨ x.kind = 7 then memoryV W { m with steps := m.steps + 1 } x got else if x.kind = 10 ∨ x.kind = 11 ∨ x.kind = 12 then branchV { m with steps := m.steps + 1 } x else reckonV { m with steps := m.steps + 1 } x
def StepQ (H : Heap) (p : Nat) (m : Ms) (xc : Value) (W F : Int) (fs : List Value) (o : Out) (H' : Heap) : Prop := (∃ b, o = .ret (.bool b)) ∧ Fr H H' p ∧ VmH H' p m xc W F fs
theorem step_E {H : Heap} (hw : H.WF) {p : Nat} {m : Ms} {xc : Value} {W F : Int} {fs : List Value} (h : VmH H p m xc W F fs) {code : List In} (hc : Rws H 6 xc (code.map rowI)) (hcp : ∀ b, blkOf xc = some b → b ≠ p) (hok : CodeOk code) (hat : m.at' < code.length) (hlen : code.length ≤ 1000) (hst : m.steps ≤ 100000) (got : Int) :
    TE Try.prog 47 [ptr p, iv got] H (StepQ H p (stepV code W F m got) xc W F fs) := by
  refine TE_by hm light47 ?_
  have L := h.l
  have lo := L.o
  have ls := L.s
  have lf := L.f
  obtain ⟨M, hM⟩ : ∃ M, M = stepV code W F m got := ⟨_, rfl⟩
  rw [← hM]
  unfold stepV at hM
  obtain ⟨z, hz⟩ : ∃ z, z = (m.over != 0) := ⟨_, rfl⟩
  cases z with
  | true =>
    rw [if_pos (by simpa using hz.symm)] at hM
    simp [L47, lo, ← hz]
    exact ⟨⟨_, rfl⟩, Fr.refl hw p, by rw [hM]; exact h⟩
  | false =>
  rw [if_neg (by simpa using hz.symm)] at hM
  obtain ⟨z2, hz2⟩ : ∃ z, z = ((m.steps : Int) == F) := ⟨_, rfl⟩
  cases z2 with
  | true =>
    rw [if_pos (by simpa using hz2.symm)] at hM
    have eE := end_E hw h 5 0
    simp [L47, lo, ← hz, ls, lf, ← hz2]
    refine goA_of hw eE ?_
    rintro o H1 ⟨rfl, fr1, h1⟩ w1 b1 n1
    simp
    exact ⟨⟨_, rfl⟩, fr1, by rw [hM]; exact h1⟩
  | false =>
  rw [if_neg (by simpa using hz2.symm)] at hM
  obtain ⟨x, hx⟩ : ∃ x, x = code[m.at'] := ⟨_, rfl⟩
  have hcx : code[m.at']? = some x := by rw [hx]; exact List.getElem?_eq_getElem hat
  rw [hcx] at hM
  simp only at hM
  have xok := (hok m.at' hat).1
  rw [← hx] at xok
  -- one step more
  obtain ⟨m1, hm1⟩ : ∃ m1 : Ms, m1 = { m with steps := m.steps + 1 } := ⟨_, rfl⟩
  rw [← hm1] at hM
  obtain ⟨H1, s1, h1, q1⟩ := h.setTail (m' := m1) 1 (by decide) (iv ((m.steps + 1 : Nat) : Int)) (by rw [hm1]) (by rw [hm1]; rfl)
  have e1 : IntKind.i64.wrap ((m.steps : Int) + 1) = ((m.steps + 1 : Nat) : Int) := by rw [w64 _ (by omega)]; omega
  have s1' : H.store ⟨p, 17, none⟩ (iv ((m.steps + 1 : Nat) : Int)) = some H1 := s1
  obtain ⟨c1, hc1⟩ : ∃ c : Nat, c = m.steps + 1 := ⟨_, rfl⟩
  rw [← hc1] at e1 s1'
  have fr1 : Fr H H1 p := by rw [q1]; exact (Fr.refl hw p).put _
  have w1 := fr1.wf
  have hc1' : Rws H1 6 xc (code.map rowI) := by
    rcases hc with h | ⟨b, off, c, rfl, hh⟩
    · exact .inl h
    · refine .inr ⟨b, off, c, rfl, fun i hi => ⟨(hh i hi).1, fun j hj => ?_⟩⟩
      have := (hh i hi).2 j hj
      rw [load_frame fr1.base (fr1.keep b (load_lt hw this) (hcp b rfl))]
      exact this
  have hatM : m1.at' = m.at' := by rw [hm1]
  have rgM : ∀ i, rg m1 i = rg m i := fun i => by rw [hm1]; rfl
  have st := new_storeA w1 55 6 [iv 0, iv 0, iv 0, iv 0, iv 0, iv 0] (rowI x) rfl rfl (by decide)
  obtain ⟨HB, hHB⟩ : ∃ HB, HB = H1.new 55 6 [iv 0, iv 0, iv 0, iv 0, iv 0, iv 0] := ⟨_, rfl⟩
  obtain ⟨HC, hHC⟩ : ∃ HC, HC = H1.new 55 6 (rowI x) := ⟨_, rfl⟩
  have onB : On H1 HB := by rw [hHB]; exact (On.refl w1).new _ _ _
  have onC : On H1 HC := by rw [hHC]; exact (On.refl w1).new _ _ _
  obtain ⟨vx, hvx⟩ : ∃ v, v = H1.next := ⟨_, rfl⟩
  have vC : Vr HC vx 55 6 (rowI x) := by rw [hHC, hvx]; exact Vr.mk' w1 _ _ _
  rw [← hHB, ← hHC, ← hvx] at st
  have L1 := h1.l
  have LB := (h1.on w1 onB).l
  have hC := h1.on w1 onC
  have la1 := L1.a
  have lc1 := L1.c
  have laB := LB.a
  have lcB := LB.c
  rw [hatM] at la1 laB
  have hi2 : m.at' < (code.map rowI).length := by simpa using hat
  obtain ⟨b, off, c, hxb, _, ldx, _⟩ := hc1'.at hi2
  obtain ⟨b', off', c', hxb', _, ldxB, _⟩ := (Rws.keep w1 onB.base onB.keep hc1').at hi2
  have exb := hxb.symm.trans hxb'
  simp only [Value.slice.injEq, Option.some.injEq, Addr.mk.injEq] at exb
  obtain ⟨⟨rfl, rfl, _⟩, _, _⟩ := exb
  simp only [List.getElem_map, List.length_map, ← hx] at ldx ldxB hxb
  have hatI : (m.at' : Int) < (code.length : Int) := by omega
  rw [hxb] at lc1 lcB
  have k0 : HC.load ⟨vx, 0, none⟩ = some (iv x.kind) := vC.load 0
  have k2 : HC.load ⟨vx, 2, none⟩ = some (iv x.a) := vC.load 2
  have kA : HC.loadN ⟨vx, 0, none⟩ 0 6 = some [iv x.kind, iv x.op, iv x.a, iv x.b, iv x.c, iv x.k] := vC.loadA rfl
  have frC : Fr H HC p := fr1.trans (On.fr onC p)
  have wC := onC.wf
  have done : ∀ (o : Out) (H2 : Heap) (M2 : Ms), VmQ HC p M2 xc W F fs o H2 → M = M2 → StepQ H p M xc W F fs (.ret (.bool true)) H2 := fun o H2 M2 hq e => ⟨⟨_, rfl⟩, frC.trans hq.2.1, by rw [e]; exact hq.2.2⟩
  simp only [rowI] at st ldx ldxB
  have at1 : m1.at' ≤ 100000 := by rw [hatM]; omega
  by_cases h1k : x.kind = 1
  · have e1k : (x.kind == 1) = true := by simp [h1k]
    rw [if_pos h1k] at hM
    have eE := end_E wC hC 1 0
    simp [L47, lo, ← hz, ls, lf, ← hz2, e1, s1', la1, lc1, laB, lcB, hat, hatI, ldx, ldxB, ← hHB, ← hvx, st, k0, e1k]
    refine goA_of wC eE ?_
    rintro o H2 hq w2 b2 n2
    obtain ⟨rfl, _, _⟩ := id hq
    simp
    exact done _ H2 _ hq hM
  have e1k : (x.kind == 1) = false := by simp [h1k]
  rw [if_neg h1k] at hM
  by_cases h13 : x.kind = 13
  · have e13 : (x.kind == 13) = true := by simp [h13]
    rw [if_pos h13] at hM
    obtain ⟨i, hi⟩ : ∃ i : Nat, x.a = i := ⟨x.a.toNat, by have := xok.a; omega⟩
    have ix := ix16 (p := p) (i := i) (by have := xok.a; omega)
    have ri := hC.reg (i := i) (by have := xok.a; omega)
    rw [rgM] at ri
    rw [hi] at k2 hM
    have eE := end_E wC hC 4 (rg m i)
    simp [L47, lo, ← hz, ls, lf, ← hz2, e1, s1', la1, lc1, laB, lcB, hat, hatI, ldx, ldxB, ← hHB, ← hvx, st, k0, e1k, e13, k2, ix, ri]
    refine goA_of wC eE ?_
    rintro o H2 hq w2 b2 n2
    obtain ⟨rfl, _, _⟩ := id hq
    simp
    exact done _ H2 _ hq hM
  have e13 : (x.kind == 13) = false := by simp [h13]
  rw [if_neg h13] at hM
  by_cases h67 : x.kind = 6 ∨ x.kind = 7
  · rw [if_pos h67] at hM
    have eE := memory_E wC hC x xok.a xok.b at1 got
    simp only [rowI] at eE
    by_cases h6 : x.kind = 6
    · have e6 : (x.kind == 6) = true := by simp [h6]
      simp [L47, lo, ← hz, ls, lf, ← hz2, e1, s1', la1, lc1, laB, lcB, hat, hatI, ldx, ldxB, ← hHB, ← hvx, st, k0, e1k, e13, e6, kA]
      refine goA_of wC eE ?_
      rintro o H2 hq w2 b2 n2
      obtain ⟨rfl, _, _⟩ := id hq
      simp
      exact done _ H2 _ hq hM
    · have e6 : (x.kind == 6) = false := by simp [h6]
      have e7 : (x.kind == 7) = true := by simp; omega
      simp [L47, lo, ← hz, ls, lf, ← hz2, e1, s1', la1, lc1, laB, lcB, hat, hatI, ldx, ldxB, ← hHB, ← hvx, st, k0, e1k, e13, e6, e7, kA]
      refine goA_of wC eE ?_
      rintro o H2 hq w2 b2 n2
      obtain ⟨rfl, _, _⟩ := id hq
      simp
      exact done _ H2 _ hq hM
  have e6 : (x.kind == 6) = false := by simp; omega
  have e7 : (x.kind == 7) = false := by simp; omega
  rw [if_neg h67] at hM
  by_cases hj : x.kind = 10 ∨ x.kind = 11 ∨ x.kind = 12
  · rw [if_pos hj] at hM
    have eE := branch_E wC hC x xok.a (xok.k hj).1 at1
    simp only [rowI] at eE
    by_cases h10 : x.kind = 10
    · have e10 : (x.kind == 10) = true := by simp [h10]
      simp [L47, lo, ← hz, ls, lf, ← hz2, e1, s1', la1, lc1, laB, lcB, hat, hatI, ldx, ldxB, ← hHB, ← hvx, st, k0, e1k, e13, e6, e7, e10, kA]
      refine goA_of wC eE ?_
      rintro o H2 hq w2 b2 n2
      obtain ⟨rfl, _, _⟩ := id hq
      simp
      exact done _ H2 _ hq hM
    · have e10 : (x.kind == 10) = false := by simp [h10]
      by_cases h11 : x.kind = 11
      · have e11 : (x.kind == 11) = true := by simp [h11]
        simp [L47, lo, ← hz, ls, lf, ← hz2, e1, s1', la1, lc1, laB, lcB, hat, hatI, ldx, ldxB, ← hHB, ← hvx, st, k0, e1k, e13, e6, e7, e10, e11, kA]
        refine goA_of wC eE ?_
        rintro o H2 hq w2 b2 n2
        obtain ⟨rfl, _, _⟩ := id hq
        simp
        exact done _ H2 _ hq hM
      · have e11 : (x.kind == 11) = false := by simp [h11]
        have e12 : (x.kind == 12) = true := by simp; omega
        simp [L47, lo, ← hz, ls, lf, ← hz2, e1, s1', la1, lc1, laB, lcB, hat, hatI, ldx, ldxB, ← hHB, ← hvx, st, k0, e1k, e13, e6, e7, e10, e11, e12, kA]
        refine goA_of wC eE ?_
        rintro o H2 hq w2 b2 n2
        obtain ⟨rfl, _, _⟩ := id hq
        simp
        exact done _ H2 _ hq hM
  have e10 : (x.kind == 10) = false := by simp; omega
  have e11 : (x.kind == 11) = false := by simp; omega
  have e12 : (x.kind == 12) = false := by simp; omega
  rw [if_neg hj] at hM
  have eE := reckon_E wC hC x xok.a xok.b xok.c at1
  simp only [rowI] at eE
  simp [L47, lo, ← hz, ls, lf, ← hz2, e1, s1', la1, lc1, laB, lcB, hat, hatI, ldx, ldxB, ← hHB, ← hvx, st, k0, e1k, e13, e6, e7, e10, e11, e12, kA]
  refine goA_of wC eE ?_
  rintro o H2 hq w2 b2 n2
  obtain ⟨rfl, _, _⟩ := id hq
  simp
  exact done _ H2 _ hq hM
end Go.Proofs.Ytjkfghekdcalhaa
