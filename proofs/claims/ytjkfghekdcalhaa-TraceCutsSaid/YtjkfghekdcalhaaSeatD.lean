/-
  Chapter 27: lean, word, holds.
-/
import Derived.Test.YtjkfghekdcalhaaSeatC
namespace Go.Proofs.Ytjkfghekdcalhaa
open Go.Ot Go.RowKit
open R14 (Twos ci joinV addN ontoN)
set_option linter.unusedSimpArgs false
set_option linter.unusedVariables false
theorem word_T {H : Heap} {p : Nat} {J : Jb} {n : Int} {pt : List Value} {xm xo xr : Value} {S : BS} {wh : Bool} (L : BL H p J n pt xm xo xr S wh) (x : Int) : T Try.prog 42 [ptr p, iv x] H (.bool (wordB J.words x)) H := by
  refine T_eq hm light42 ?_
  have l0 := L.l0
  unfold wordB
  by_cases h1 : 0 ≤ x
  · simp [L42, h1, l0]
  · simp [L42, h1]
def InvHo (H : Heap) (p q : Nat) (y : Value) (l : List (Int × Int)) (m : List Int) (k : Nat) (t : Tm) (H1 : Heap) : Prop :=
  ∃ i : Nat, i + k = l.length ∧ t 0 = ptr p ∧ t 1 = ptr q ∧ t 10 = y ∧ t 11 = iv l.length ∧ t 12 = iv i ∧ holdsV m (l.drop i) = holdsV m l ∧ On H H1
theorem holds_T {H : Heap} (hw : H.WF) {p q : Nat} {xm y yw yo yi : Value} {m : List Int} {l : List (Int × Int)} (lm : H.load ⟨p, 212, none⟩ = some xm) (hmm : Own H 2 1 m.length (ci m) xm) (vq : Vr H q 109 4 [y, yw, yo, yi]) (hy : Own H 111 2 l.length (c2 l) y)
    (hr : ∀ c ∈ l, 0 ≤ c.1 ∧ c.1 < (m.length : Int)) (hl : l.length ≤ 100000) : T Try.prog 55 [ptr p, ptr q] H (.bool (holdsV m l)) H := by
  obtain ⟨V, hV⟩ : ∃ V, V = holdsV m l := ⟨_, rfl⟩
  rw [← hV]
  refine T_seen hm light55 rfl ?_
  have lq : H.load ⟨q, 0, none⟩ = some y := vq.load 0
  obtain ⟨ay, hye⟩ := hy.len
  rw [hye] at lq
  simp [L55, lq]
  rw [← hye]
  refine loop_at (InvHo H p q y l m) l.length ?_ ?_
  · exact ⟨0, by omega, by simp, by simp, by simp [hye], by simp, by simp, by simp, On.refl hw⟩
  rintro k t H1 ⟨i, hik, t0, t1, t10, t11, t12, hh, on⟩
  cases k with
  | zero =>
    have ei : i = l.length := by omega
    have e1 : V = true := by rw [hV, ← hh, List.drop_eq_nil_of_le (by omega)]; rfl
    simp [L55_1, t11, t12, ei, e1]
    exact on.keep
  | succ k =>
    have hi : i < l.length := by omega
    have hiI : (i : Int) < (l.length : Int) := by omega
    have e4 : IntKind.i64.wrap ((i : Int) + 1) = ((i + 1 : Nat) : Int) := by rw [w64 _ (by omega)]; omega
    obtain ⟨e, he⟩ : ∃ e, e = l[i] := ⟨_, rfl⟩
    obtain ⟨h0, h1⟩ := hr e (by rw [he]; exact List.getElem_mem hi)
    have hi2 : i < (rows2 l).length := by simpa [rows2] using hi
    obtain ⟨b, off, c, hyb, _, ldx, _⟩ := (Rws.keep hw on.base on.keep (own_rows2 hy)).at hi2
    have er : (rows2 l)[i] = [iv e.1, iv e.2] := by simp [rows2, he]
    have ln2 : (rows2 l).length = l.length := by simp [rows2]
    rw [er] at ldx
    rw [ln2] at hyb
    have t10' := t10.trans hyb
    obtain ⟨j, hj⟩ : ∃ j, j = e.1.toNat := ⟨_, rfl⟩
    have ej : e.1 = (j : Int) := by omega
    have hjm : j < m.length := by omega
    have hjmI : (j : Int) < (m.length : Int) := by omega
    have hold : holdsV m (l.drop i) = (decide (m[j] = e.2) && holdsV m (l.drop (i + 1))) := by
      rw [List.drop_eq_getElem_cons hi, ← he]
      simp [holdsV, ← hj, List.getD, hjm]
    have st := new_storeA on.wf 111 2 [iv 0, iv 0] [iv e.1, iv e.2] rfl rfl (by decide)
    have VE : Vr (H1.new 111 2 [iv e.1, iv e.2]) H1.next 111 2 [iv e.1, iv e.2] := Vr.mk' on.wf _ _ _
    have on2 : On H (H1.new 111 2 [iv e.1, iv e.2]) := on.new _ _ _
    obtain ⟨H2, hH2⟩ : ∃ H2, H2 = H1.new 111 2 [iv e.1, iv e.2] := ⟨_, rfl⟩
    obtain ⟨r, hrr⟩ : ∃ r, r = H1.next := ⟨_, rfl⟩
    rw [← hH2, ← hrr] at st VE
    rw [← hH2] at on2
    have f0 : H2.load ⟨r, 0, none⟩ = some (iv j) := by rw [← ej]; exact VE.load 0
    have f1 : H2.load ⟨r, 1, none⟩ = some (iv e.2) := VE.load 1
    have lm2 := load_keepN hw on2.base on2.keep lm
    obtain ⟨bm, om, cm, hxm, ldm⟩ := (Own.ints (Own.on hw hmm on2)).at hjm
    rw [hxm] at lm2
    rw [hold] at hh
    by_cases hc : m[j] = e.2
    · have c1 : (m[j] != e.2) = false := by simp [hc]
      simp [L55_1, t11, t12, hi, hiI, t10', ldx, st, ← hrr, t0, lm2, f0, f1, hjm, hjmI, ldm, c1, e4]
      exact ⟨k, by omega, i + 1, by omega, by simp [t0], by simp [t1], by simp [t10], by simp [t11], by simp, by rw [← hh]; simp [hc], on2⟩
    · have c1 : (m[j] != e.2) = true := bne_iff_ne.2 hc
      have e1 : V = false := by rw [hV, ← hh]; simp [hc]
      simp [L55_1, t11, t12, hi, hiI, t10', ldx, st, ← hrr, t0, lm2, f0, f1, hjm, hjmI, ldm, c1, e1]
      exact on2.keep
theorem stepG (w : World) {xs ys : Array Value} {f : Field} {fs : List Field} {n m : Int} (hn : f.name ≠ "_") (hk : Try.prog.plainKey f.type = true) (hu : Try.prog.underlying f.type = some (.int .i64)) (hx : xs[f.offset]? = some (iv n)) (hy : ys[f.offset]? = some (iv m)) :
    (Op.eqFields 9999 xs ys (f :: fs)).run Try.prog w = if n = m then (Op.eqFields 9999 xs ys fs).run Try.prog w else .ok false w := by
  simp only [Op.eqFields]
  rw [if_pos hn]
  simp only [Sem.run_bind, run_part_plain w hk hx, run_part_plain w hk hy, Result.andThen_ok, run_equalIn_int w 9998 f.type .i64 .i64 _ _ hu]
  by_cases h : n = m
  · simp [h]
  · simp [h]
def sameEv (x y : Ev) : Bool := decide (x.kind = y.kind ∧ x.who = y.who ∧ x.age = y.age ∧ x.at' = y.at' ∧ x.value = y.value ∧ x.from' = y.from')
set_option maxRecDepth 100000 in
theorem eqEv (x y : Ev) (w : World) : (Op.equal 58 (.agg #[iv x.kind, iv x.who, iv x.age, iv x.at', iv x.value, iv x.from']) (.agg #[iv y.kind, iv y.who, iv y.age, iv y.at', iv y.value, iv y.from'])).run Try.prog w = .ok (sameEv x y) w := by
  have hd : ∀ a b, Op.equal 58 a b = Op.equalIn (9999 + 1) 58 a b := fun _ _ => rfl
  have hf : ∃ f1 f2 f3 f4 f5 f6 : Field, Try.prog.fieldsOf 58 = #[f1, f2, f3, f4, f5, f6] ∧ (f1.name ≠ "_" ∧ f2.name ≠ "_" ∧ f3.name ≠ "_" ∧ f4.name ≠ "_" ∧ f5.name ≠ "_" ∧ f6.name ≠ "_") ∧ (f1.offset = 0 ∧ f2.offset = 1 ∧ f3.offset = 2 ∧ f4.offset = 3 ∧ f5.offset = 4 ∧ f6.offset = 5) ∧
      (Try.prog.underlying f1.type = some (.int .i64) ∧ Try.prog.underlying f2.type = some (.int .i64) ∧ Try.prog.underlying f3.type = some (.int .i64) ∧ Try.prog.underlying f4.type = some (.int .i64) ∧ Try.prog.underlying f5.type = some (.int .i64) ∧ Try.prog.underlying f6.type = some (.int .i64)) ∧
      (Try.prog.plainKey f1.type = true ∧ Try.prog.plainKey f2.type = true ∧ Try.prog.plainKey f3.type = true ∧ Try.prog.plainKey f4.type = true ∧ Try.prog.plainKey f5.type = true ∧ Try.prog.plainKey f6.type = true) ∧ Try.prog.underlying 58 = some (.struct #[f1, f2, f3, f4, f5, f6]) := by
    unfold Program.fieldsOf
    rw [Try.underlying58]
    refine ⟨_, _, _, _, _, _, rfl, ⟨by decide, by decide, by decide, by decide, by decide, by decide⟩, ⟨rfl, rfl, rfl, rfl, rfl, rfl⟩, ⟨?_, ?_, ?_, ?_, ?_, ?_⟩, ⟨by kernel_rfl, by kernel_rfl, by kernel_rfl, by kernel_rfl, by kernel_rfl, by kernel_rfl⟩, rfl⟩ <;> kernel_rfl
  obtain ⟨f1, f2, f3, f4, f5, f6, hf, ⟨n1, n2, n3, n4, n5, n6⟩, ⟨o1, o2, o3, o4, o5, o6⟩, ⟨u1, u2, u3, u4, u5, u6⟩, ⟨k1, k2, k3, k4, k5, k6⟩, hu⟩ := hf
  rw [hd, run_equalIn_struct w 9999 58 _ _ (by rw [hf]; exact hu) (by kernel_rfl), hf]
  show (Op.eqFields 9999 _ _ [f1, f2, f3, f4, f5, f6]).run Try.prog w = _
  rw [stepG (n := x.kind) (m := y.kind) w n1 k1 u1 (by rw [o1]; rfl) (by rw [o1]; rfl), stepG (n := x.who) (m := y.who) w n2 k2 u2 (by rw [o2]; rfl) (by rw [o2]; rfl), stepG (n := x.age) (m := y.age) w n3 k3 u3 (by rw [o3]; rfl) (by rw [o3]; rfl),
    stepG (n := x.at') (m := y.at') w n4 k4 u4 (by rw [o4]; rfl) (by rw [o4]; rfl), stepG (n := x.value) (m := y.value) w n5 k5 u5 (by rw [o5]; rfl) (by rw [o5]; rfl), stepG (n := x.from') (m := y.from') w n6 k6 u6 (by rw [o6]; rfl) (by rw [o6]; rfl)]
  have hz : (Op.eqFields 9999 #[iv x.kind, iv x.who, iv x.age, iv x.at', iv x.value, iv x.from'] #[iv y.kind, iv y.who, iv y.age, iv y.at', iv y.value, iv y.from'] []).run Try.prog w = .ok true w := rfl
  rw [hz]
  unfold sameEv
  by_cases c1 : x.kind = y.kind <;> by_cases c2 : x.who = y.who <;> by_cases c3 : x.age = y.age <;> by_cases c4 : x.at' = y.at' <;> by_cases c5 : x.value = y.value <;> by_cases c6 : x.from' = y.from' <;> simp [c1, c2, c3, c4, c5, c6]
/-- What an event of its kind has. -/
def leanY (x : Ev) : Ev :=
  if x.kind = 1 then ⟨x.kind, x.who, x.age, 0, 0, 0⟩
  else if x.kind = 2 then ⟨x.kind, 0, x.age, x.at', x.value, x.from'⟩
  else if x.kind = 3 ∨ x.kind = 5 ∨ x.kind = 8 then ⟨x.kind, 0, x.age, x.at', x.value, 0⟩
  else if x.kind = 4 then ⟨x.kind, 0, x.age, 0, x.value, 0⟩
  else ⟨x.kind, 0, x.age, 0, 0, 0⟩
theorem lean_eq (x : Ev) : sameEv x (leanY x) = leanV x := by
  unfold sameEv leanY leanV
  split
  · simp [and_assoc]
  split
  · simp
  split
  · simp
  split
  · simp [and_assoc]
  · simp [and_assoc]
theorem lean_T {H : Heap} (hw : H.WF) (x : Ev) : T Try.prog 41 [.agg (evC x).toArray] H (.bool (leanV x)) H := by
  refine T_seen hm light41 rfl ?_
  obtain ⟨HA, hHA⟩ : ∃ HA, HA = H.new 58 6 (evC x) := ⟨_, rfl⟩
  have onA : On H HA := by rw [hHA]; exact (On.refl hw).new _ _ _
  have vA : Vr HA H.next 58 6 (evC x) := by rw [hHA]; exact Vr.mk' hw _ _ _
  have nA : HA.next = H.next + 1 := by rw [hHA]; rfl
  have st := new_storeA onA.wf 58 6 [iv 0, iv 0, iv 0, iv 0, iv 0, iv 0] [iv x.kind, iv 0, iv x.age, iv 0, iv 0, iv 0] rfl rfl (by decide)
  obtain ⟨HB, hHB⟩ : ∃ HB, HB = HA.new 58 6 [iv x.kind, iv 0, iv x.age, iv 0, iv 0, iv 0] := ⟨_, rfl⟩
  have onB : On H HB := by rw [hHB]; exact onA.new _ _ _
  have vB : Vr HB HA.next 58 6 [iv x.kind, iv 0, iv x.age, iv 0, iv 0, iv 0] := by rw [hHB]; exact Vr.mk' onA.wf _ _ _
  have vAB : Vr HB H.next 58 6 (evC x) := by rw [hHB]; exact vA.new onA.wf _ _ _
  rw [← hHB] at st
  rw [nA] at st vB
  have a0 : HA.load ⟨H.next, 0, none⟩ = some (iv x.kind) := vA.load 0
  have a2 : HA.load ⟨H.next, 2, none⟩ = some (iv x.age) := vA.load 2
  have b0 : HB.load ⟨H.next, 0, none⟩ = some (iv x.kind) := vAB.load 0
  -- the end, whatever was filled in
  have fin : ∀ (HC : Heap) (cs : List Value), HC = HB.put (H.next + 1) cs → cs = evC (leanY x) → On H HC ∧ HC.loadN ⟨H.next, 0, none⟩ 0 6 = some (evC x) ∧ HC.loadN ⟨H.next + 1, 0, none⟩ 0 6 = some (evC (leanY x)) := fun HC cs h1 h2 => by
    subst h1
    subst h2
    exact ⟨onB.put (by omega) _, (vAB.beside (show H.next ≠ H.next + 1 by omega) _).loadA rfl, (vB.put _).loadA rfl⟩
  have eqL := eqEv x (leanY x)
  rw [lean_eq] at eqL
  have sv : ∀ (j : Nat) (v : Value) (cs : List Value), j < cs.length → (HB.put (H.next + 1) cs).store ⟨H.next + 1, j, none⟩ v = some ((HB.put (H.next + 1) cs).put (H.next + 1) (cs.set j v)) := fun j v cs hj => (vB.put cs).store j v hj
  have same0 : HB.put (H.next + 1) [iv x.kind, iv 0, iv x.age, iv 0, iv 0, iv 0] = HB := vB.same
  have s0 : ∀ (j : Nat) (v : Value), j < 6 → HB.store ⟨H.next + 1, j, none⟩ v = some (HB.put (H.next + 1) ([iv x.kind, iv 0, iv x.age, iv 0, iv 0, iv 0].set j v)) := fun j v hj => vB.store j v hj
  have ldA : ∀ (HC : Heap) (cs : List Value) (j : Nat), HC = HB.put (H.next + 1) cs → HC.load ⟨H.next, j, none⟩ = (evC x)[j]? := fun HC cs j h => by rw [h]; exact (vAB.beside (show H.next ≠ H.next + 1 by omega) cs).load j
  have stp : ∀ (HC HD : Heap) (cs cs' : List Value) (j : Nat) (v : Value), HC = HB.put (H.next + 1) cs → cs' = cs.set j v → j < cs.length → HD = HB.put (H.next + 1) cs' → HC.store ⟨H.next + 1, j, none⟩ v = some HD := fun HC HD cs cs' j v h1 h2 h3 h4 => by
    subst h1
    rw [sv j v cs h3, h4, h2, put_put]
  have ldB : ∀ j, HB.load ⟨H.next, j, none⟩ = (evC x)[j]? := fun j => vAB.load j
  have b1 : HB.load ⟨H.next, 1, none⟩ = some (iv x.who) := ldB 1
  have b3 : HB.load ⟨H.next, 3, none⟩ = some (iv x.at') := ldB 3
  have b4 : HB.load ⟨H.next, 4, none⟩ = some (iv x.value) := ldB 4
  have b5 : HB.load ⟨H.next, 5, none⟩ = some (iv x.from') := ldB 5
  have hHA2 : H.new 58 6 [iv x.kind, iv x.who, iv x.age, iv x.at', iv x.value, iv x.from'] = HA := hHA.symm
  -- which kind it is
  obtain ⟨k1, hk1⟩ : ∃ b, b = (x.kind == 1) := ⟨_, rfl⟩
  obtain ⟨k2, hk2⟩ : ∃ b, b = (x.kind == 2) := ⟨_, rfl⟩
  obtain ⟨k3, hk3⟩ : ∃ b, b = (x.kind == 3) := ⟨_, rfl⟩
  obtain ⟨k4, hk4⟩ : ∃ b, b = (x.kind == 4) := ⟨_, rfl⟩
  obtain ⟨k5, hk5⟩ : ∃ b, b = (x.kind == 5) := ⟨_, rfl⟩
  obtain ⟨k8, hk8⟩ : ∃ b, b = (x.kind == 8) := ⟨_, rfl⟩
  -- the end, told as lists
  have done : ∀ (HC : Heap) (y : Ev), HC = HB.put (H.next + 1) (evC y) → y = leanY x → HC.loadN ⟨H.next, 0, none⟩ 0 6 = some [iv x.kind, iv x.who, iv x.age, iv x.at', iv x.value, iv x.from'] ∧ HC.loadN ⟨H.next + 1, 0, none⟩ 0 6 = some [iv y.kind, iv y.who, iv y.age, iv y.at', iv y.value, iv y.from'] ∧
      (∀ w, (Op.equal 58 (.agg #[iv x.kind, iv x.who, iv x.age, iv x.at', iv x.value, iv x.from']) (.agg #[iv y.kind, iv y.who, iv y.age, iv y.at', iv y.value, iv y.from'])).run Try.prog w = .ok (leanV x) w) ∧ On H HC := fun HC y h1 h2 => by
    subst h2
    obtain ⟨a, b, c⟩ := fin HC _ h1 rfl
    exact ⟨b, c, eqL, a⟩
  cases k1 with
  | true =>
    have h1 : x.kind = 1 := by simpa using hk1.symm
    obtain ⟨HC, hHC⟩ : ∃ HC, HC = HB.put (H.next + 1) (evC ⟨x.kind, x.who, x.age, 0, 0, 0⟩) := ⟨_, rfl⟩
    have s1 := stp HB HC _ _ 1 (iv x.who) same0.symm rfl (by simp) hHC
    obtain ⟨lA, lB, eq, onC⟩ := done HC _ hHC (by unfold leanY; rw [if_pos h1])
    simp [L41, hHA2, st, nA, a0, a2, b0, b1, ← hk1, s1, lA, lB]
    refine goE_of (b := leanV x) rfl rfl eq ?_
    simp
    exact onC.keep
  | false =>
  have n1 : ¬ x.kind = 1 := by simpa using hk1.symm
  cases k2 with
  | true =>
    have h2 : x.kind = 2 := by simpa using hk2.symm
    obtain ⟨HC, hHC⟩ : ∃ HC, HC = HB.put (H.next + 1) (evC ⟨x.kind, 0, x.age, x.at', 0, 0⟩) := ⟨_, rfl⟩
    obtain ⟨HD, hHD⟩ : ∃ HD, HD = HB.put (H.next + 1) (evC ⟨x.kind, 0, x.age, x.at', x.value, 0⟩) := ⟨_, rfl⟩
    obtain ⟨HE, hHE⟩ : ∃ HE, HE = HB.put (H.next + 1) (evC ⟨x.kind, 0, x.age, x.at', x.value, x.from'⟩) := ⟨_, rfl⟩
    have s1 := stp HB HC _ _ 3 (iv x.at') same0.symm rfl (by simp) hHC
    have s2 := stp HC HD _ _ 4 (iv x.value) hHC rfl (by simp) hHD
    have s3 := stp HD HE _ _ 5 (iv x.from') hHD rfl (by simp) hHE
    have c4 : HC.load ⟨H.next, 4, none⟩ = some (iv x.value) := ldA HC _ 4 hHC
    have c5 : HC.load ⟨H.next, 5, none⟩ = some (iv x.from') := ldA HC _ 5 hHC
    have d5 : HD.load ⟨H.next, 5, none⟩ = some (iv x.from') := ldA HD _ 5 hHD
    obtain ⟨lA, lB, eq, onC⟩ := done HE _ hHE (by unfold leanY; rw [if_neg n1, if_pos h2])
    simp [L41, hHA2, st, nA, a0, a2, b0, b3, b4, b5, c4, c5, d5, ← hk1, ← hk2, s1, s2, s3, lA, lB]
    refine goE_of (b := leanV x) rfl rfl eq ?_
    simp
    exact onC.keep
  | false =>
  have n2 : ¬ x.kind = 2 := by simpa using hk2.symm
  by_cases h358 : x.kind = 3 ∨ x.kind = 5 ∨ x.kind = 8
  · obtain ⟨HC, hHC⟩ : ∃ HC, HC = HB.put (H.next + 1) (evC ⟨x.kind, 0, x.age, x.at', 0, 0⟩) := ⟨_, rfl⟩
    obtain ⟨HD, hHD⟩ : ∃ HD, HD = HB.put (H.next + 1) (evC ⟨x.kind, 0, x.age, x.at', x.value, 0⟩) := ⟨_, rfl⟩
    have s1 := stp HB HC _ _ 3 (iv x.at') same0.symm rfl (by simp) hHC
    have s2 := stp HC HD _ _ 4 (iv x.value) hHC rfl (by simp) hHD
    have c4 : HC.load ⟨H.next, 4, none⟩ = some (iv x.value) := ldA HC _ 4 hHC
    obtain ⟨lA, lB, eq, onC⟩ := done HD _ hHD (by unfold leanY; rw [if_neg n1, if_neg n2, if_pos h358])
    cases k3 with
    | true =>
      simp [L41, hHA2, st, nA, a0, a2, b0, b3, b4, c4, ← hk1, ← hk2, ← hk3, s1, s2, lA, lB]
      refine goE_of (b := leanV x) rfl rfl eq ?_
      simp
      exact onC.keep
    | false =>
      cases k5 with
      | true =>
        simp [L41, hHA2, st, nA, a0, a2, b0, b3, b4, c4, ← hk1, ← hk2, ← hk3, ← hk5, s1, s2, lA, lB]
        refine goE_of (b := leanV x) rfl rfl eq ?_
        simp
        exact onC.keep
      | false =>
        have n3 : ¬ x.kind = 3 := by simpa using hk3.symm
        have n5 : ¬ x.kind = 5 := by simpa using hk5.symm
        have e8 : (x.kind == 8) = true := by simp; omega
        simp [L41, hHA2, st, nA, a0, a2, b0, b3, b4, c4, ← hk1, ← hk2, ← hk3, ← hk5, e8, s1, s2, lA, lB]
        refine goE_of (b := leanV x) rfl rfl eq ?_
        simp
        exact onC.keep
  · have e3 : (x.kind == 3) = false := by simp; omega
    have e5 : (x.kind == 5) = false := by simp; omega
    have e8 : (x.kind == 8) = false := by simp; omega
    cases k4 with
    | true =>
      have h4 : x.kind = 4 := by simpa using hk4.symm
      obtain ⟨HC, hHC⟩ : ∃ HC, HC = HB.put (H.next + 1) (evC ⟨x.kind, 0, x.age, 0, x.value, 0⟩) := ⟨_, rfl⟩
      have s1 := stp HB HC _ _ 4 (iv x.value) same0.symm rfl (by simp) hHC
      obtain ⟨lA, lB, eq, onC⟩ := done HC _ hHC (by unfold leanY; rw [if_neg n1, if_neg n2, if_neg h358, if_pos h4])
      simp [L41, hHA2, st, nA, a0, a2, b0, b4, ← hk1, ← hk2, e3, e5, e8, ← hk4, s1, lA, lB]
      refine goE_of (b := leanV x) rfl rfl eq ?_
      simp
      exact onC.keep
    | false =>
      have n4 : ¬ x.kind = 4 := by simpa using hk4.symm
      obtain ⟨lA, lB, eq, onC⟩ := done HB ⟨x.kind, 0, x.age, 0, 0, 0⟩ same0.symm (by unfold leanY; rw [if_neg n1, if_neg n2, if_neg h358, if_neg n4])
      simp [L41, hHA2, st, nA, a0, a2, b0, b4, ← hk1, ← hk2, e3, e5, e8, ← hk4, lA, lB]
      refine goE_of (b := leanV x) rfl rfl eq ?_
      simp
      exact onC.keep
end Go.Proofs.Ytjkfghekdcalhaa
