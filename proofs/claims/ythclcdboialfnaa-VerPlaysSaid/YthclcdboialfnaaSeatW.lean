/-
  Chapter 21: a call of both: what comes of each kind. Chapter 21: a call of both: Drop, DropAll, Put; and whatever kind. Chapter 21: Chain.
-/
import Derived.Test.YthclcdboialfnaaSeatT
import Derived.Test.YthclcdboialfnaaSeatLE
namespace Go.Proofs.Ythclcdboialfnaa
open Go.Ot Go.RowKit
set_option linter.unusedSimpArgs false
set_option linter.unusedVariables false
def stepC (W : Nat) (f : Nat → Int → Option Int) (o : Cl) : Nat → Int → Option Int :=
  if o.k % 7 < 3 then putF f W o.w o.g o.v else if o.k % 7 = 5 then dropF f W o.w o.g else if o.k % 7 = 6 then fun b g => if g = o.g then none else f b g else f
theorem Rws.keepB {H H' : Heap} (hb : H'.base = H.base) {sz : Nat} {x : Value} {l : List (List Value)} (hk : ∀ b, blkOf x = some b → H'.blk b = H.blk b) (h : Rws H sz x l) : Rws H' sz x l := by
  rcases h with h | ⟨b, off, c, rfl, h⟩
  · exact .inl h
  · refine .inr ⟨b, off, c, rfl, fun i hi => ⟨(h i hi).1, fun j hj => ?_⟩⟩
    have := (h i hi).2 j hj
    rw [load_frame hb (hk b rfl)]
    exact this
theorem Fm.of_on {H H1 : Heap} (o : On H H1) (p : Nat) (D : SD) : Fm H H1 p D D := ⟨o.wf, o.base, o.next, fun b hb _ => o.keep b hb, fun _ h => .inl h⟩
theorem On.fm_keep {H H1 H2 : Heap} {p : Nat} {D D' : SD} (f : Fm H1 H2 p D D') {y : Value} {l : List Vx} (hy : Rv H1 y l) (hyn : ∀ b, blkOf y = some b → b < H1.next ∧ ¬ Mine p D b) : Rv H2 y l :=
  Rws.keepB f.base (fun b hb => f.keep b (hyn b hb).1 (hyn b hb).2) hy
def OneR (H : Heap) (p W R : Nat) (D : SD) (l : List Vx) (y : Value) (o : Cl) (v : Value) (H' : Heap) : Prop :=
  ∃ y' b D' l', v = .tuple #[sV W R y', .bool b] ∧ ST H' p D' ∧ PL D' W R ∧ Rv H' y' l' ∧ (∀ b, blkOf y' = some b → b < H'.next ∧ ¬ Mine p D' b ∧ (blkOf y = some b ∨ H.next ≤ b)) ∧ l'.length ≤ l.length + 1 ∧ Fm H H' p D D' ∧
    (1 ≤ D.fr.length → cont D' = stepC W (cont D) o ∧ D.fr.length ≤ D'.fr.length + 1) ∧ (Rel D W R l → b = true ∧ Rel D' W R l') ∧ (∀ l2, Rel D W R l2 → ∃ l3, Rel D' W R l3)
/-- The three variables of the call. -/
structure Vs (H HC : Heap) (W R : Nat) (y : Value) (o : Cl) : Prop where
  on : On H HC
  next : HC.next = H.next + 3
  vS : Vr HC H.next 40 3 [iv W, iv R, y]
  vO : Vr HC (H.next + 1) 28 4 (orow o)
  vR : Vr HC (H.next + 2) 40 3 [iv 0, iv 0, .slice none 0 0]
theorem vs_mk {H : Heap} (hw : H.WF) (W R : Nat) (y : Value) (o : Cl) : Vs H (((H.new 40 3 [iv W, iv R, y]).new 28 4 (orow o)).new 40 3 [iv 0, iv 0, .slice none 0 0]) W R y o := by
  have onA : On H (H.new 40 3 [iv W, iv R, y]) := (On.refl hw).new _ _ _
  have vA : Vr (H.new 40 3 [iv W, iv R, y]) H.next 40 3 [iv W, iv R, y] := Vr.mk' hw _ _ _
  have onB : On (H.new 40 3 [iv W, iv R, y]) ((H.new 40 3 [iv W, iv R, y]).new 28 4 (orow o)) := (On.refl onA.wf).new _ _ _
  have vB : Vr ((H.new 40 3 [iv W, iv R, y]).new 28 4 (orow o)) (H.next + 1) 28 4 (orow o) := Vr.mk' onA.wf _ _ _
  have onC : On ((H.new 40 3 [iv W, iv R, y]).new 28 4 (orow o)) (((H.new 40 3 [iv W, iv R, y]).new 28 4 (orow o)).new 40 3 [iv 0, iv 0, .slice none 0 0]) := (On.refl onB.wf).new _ _ _
  exact ⟨(onA.trans onB).trans onC, rfl, (vA.on onA.wf onB).on onB.wf onC, vB.on onB.wf onC, Vr.mk' onB.wf _ _ _⟩
theorem one3 {H : Heap} (hw : H.WF) {p W R : Nat} {D : SD} (h : ST H p D) (pl : PL D W R) {y : Value} {l : List Vx} (hy : Rv H y l) (hyn : ∀ b, blkOf y = some b → b < H.next ∧ ¬ Mine p D b) (hl : l.length ≤ 100000) (o : Cl) (hk : o.k % 7 = 3) :
    ∃ v H', T Try.prog 14 [ptr p, sV W R y, .agg (orow o).toArray] H v H' ∧ OneR H p W R D l y o v H' := by
  obtain ⟨HC, hHC⟩ : ∃ HC, HC = ((H.new 40 3 [iv W, iv R, y]).new 28 4 (orow o)).new 40 3 [iv 0, iv 0, .slice none 0 0] := ⟨_, rfl⟩
  have V := vs_mk hw W R y o
  rw [← hHC] at V
  have hwC := V.on.wf
  have d0 : HC.load ⟨H.next + 1, 0, none⟩ = some (iv o.k) := V.vO.load 0
  have d1 : HC.load ⟨H.next + 1, 1, none⟩ = some (iv o.w) := V.vO.load 1
  have d2 : HC.load ⟨H.next + 1, 2, none⟩ = some (iv o.g) := V.vO.load 2
  obtain ⟨_, kT, kk, rfl, hkk⟩ := kind_T (H := HC) o.k
  have e3 : kk = 3 := by omega
  subst e3
  have stC := h.on hw V.on
  have hyC := hy.on hw V.on
  refine T_by hm light14 ?_
  simp only [orow] at hHC
  simp [L14_eq, sV, orow, ← hHC, d0]
  refine goT_of kT ?_
  have olds : ∃ q v f', T Try.prog 11 [ptr p, iv o.w, iv o.g] HC (.tuple #[.agg #[iv q, iv v], .bool f']) HC ∧ ∀ b f, OldV l o.w o.g l.length b f → Rel D W R l → f' = f ∧ q = b.g ∧ v = b.v := by
    by_cases hin : inV D o.w = true
    · have hin' := hin
      simp only [inV, Bool.and_eq_true, decide_eq_true_eq, pl.hW] at hin'
      obtain ⟨n, hn⟩ : ∃ n : Nat, o.w = n := ⟨o.w.toNat, by omega⟩
      obtain ⟨r, oT, h1, h2⟩ := older_TT hwC stC pl (a := n) (by omega) o.g
      rw [hn]
      cases r with
      | none =>
        refine ⟨0, 0, false, oT, fun b f ho hR => ?_⟩
        cases f with
        | false => obtain ⟨_, rfl⟩ := (rel_old hR (by omega) h1 h2 ho).1 rfl; exact ⟨rfl, rfl, rfl⟩
        | true => have := (rel_old hR (by omega) h1 h2 ho).2 rfl; cases this
      | some qv =>
        obtain ⟨q, v⟩ := qv
        refine ⟨q, v, true, oT, fun b f ho hR => ?_⟩
        cases f with
        | false => have := ((rel_old hR (by omega) h1 h2 ho).1 rfl).1; cases this
        | true => have := (rel_old hR (by omega) h1 h2 ho).2 rfl; cases this; exact ⟨rfl, rfl, rfl⟩
    · have hin' : inV D o.w = false := by simpa using hin
      refine ⟨0, 0, false, older_out hwC stC hin' o.g, fun b f ho hR => ?_⟩
      cases f with
      | false => obtain ⟨rfl, _⟩ := ho.no rfl; exact ⟨rfl, rfl, rfl⟩
      | true =>
        obtain ⟨⟨j, hj, _, hjb⟩, e1, _⟩ := ho.yes rfl
        have := hR.rng b (by rw [← hjb]; exact List.getElem_mem hj)
        refine absurd ?_ hin
        simp only [inV, Bool.and_eq_true, decide_eq_true_eq, pl.hW]
        omega
  obtain ⟨q, v, f', oT, hcmp⟩ := olds
  have st1 := new_storeA hwC 33 2 [iv 0, iv 0] [iv q, iv v] rfl rfl (by decide)
  obtain ⟨HD, hHD⟩ : ∃ HD, HD = HC.new 33 2 [iv q, iv v] := ⟨_, rfl⟩
  have onD : On HC HD := by rw [hHD]; exact (On.refl hwC).new _ _ _
  have nD : HD.next = H.next + 4 := by rw [hHD]; show HC.next + 1 = _; have := V.next; omega
  have vD : Vr HD HC.next 33 2 [iv q, iv v] := by rw [hHD]; exact Vr.mk' hwC _ _ _
  rw [← hHD] at st1
  have ldS := (V.vS.on hwC onD).loadA (m := 3) rfl
  have g1 : HD.load ⟨H.next + 1, 1, none⟩ = some (iv o.w) := (V.vO.on hwC onD).load 1
  have g2 : HD.load ⟨H.next + 1, 2, none⟩ = some (iv o.g) := (V.vO.on hwC onD).load 2
  have hyD := hyC.on hwC onD
  obtain ⟨b, f, dT, ho⟩ := oldD_T onD.wf hyD hl W R o.w o.g
  have st2 := new_storeA onD.wf 71 3 [iv 0, iv 0, iv 0] (vrow b) rfl rfl (by decide)
  obtain ⟨HE, hHE⟩ : ∃ HE, HE = HD.new 71 3 (vrow b) := ⟨_, rfl⟩
  have onE : On HD HE := by rw [hHE]; exact (On.refl onD.wf).new _ _ _
  have vE : Vr HE HD.next 71 3 (vrow b) := by rw [hHE]; exact Vr.mk' onD.wf _ _ _
  rw [← hHE] at st2
  have on2 := onD.trans onE
  have vSE := V.vS.on hwC on2
  have vRE := V.vR.on hwC on2
  have vDE := vD.on onD.wf onE
  have ldE := vSE.loadA (m := 3) rfl
  have a0 : HE.load ⟨HC.next, 0, none⟩ = some (iv q) := vDE.load 0
  have a1 : HE.load ⟨HC.next, 1, none⟩ = some (iv v) := vDE.load 1
  have b1 : HE.load ⟨HD.next, 1, none⟩ = some (iv b.g) := vE.load 1
  have b2 : HE.load ⟨HD.next, 2, none⟩ = some (iv b.v) := vE.load 2
  have sf := vRE.storeA (m := 3) (by decide) [iv W, iv R, y] rfl rfl
  have ldR := (vRE.put [iv W, iv R, y]).loadA (m := 3) rfl
  have onF : On H (HE.put (H.next + 2) [iv W, iv R, y]) := (V.on.trans on2).put (by omega) _
  obtain ⟨HF, hHF⟩ : ∃ HF, HF = HE.put (H.next + 2) [iv W, iv R, y] := ⟨_, rfl⟩
  have vEF := vE.beside (r := H.next + 2) (by omega) [iv W, iv R, y]
  have vDF := vDE.beside (r := H.next + 2) (by have := V.next; omega) [iv W, iv R, y]
  rw [← hHF] at sf ldR onF vEF vDF
  have a1' : HF.load ⟨HC.next, 1, none⟩ = some (iv v) := vDF.load 1
  have b2' : HF.load ⟨HD.next, 2, none⟩ = some (iv b.v) := vEF.load 2
  have fin : ∀ bb : Bool, (Rel D W R l → bb = true) → OneR H p W R D l y o (.tuple #[sV W R y, .bool bb]) HF := fun bb hb =>
    ⟨y, bb, D, l, rfl, h.on hw onF, pl, hy.on hw onF, fun b hb => ⟨Nat.lt_of_lt_of_le (hyn b hb).1 onF.next, (hyn b hb).2, .inl hb⟩, by omega, Fm.of_on onF p D, fun _ => ⟨by unfold stepC; rw [if_neg (by omega), if_neg (by omega), if_neg (by omega)], by omega⟩, fun hR => ⟨hb hR, hR⟩, fun l2 h2 => ⟨l2, h2⟩⟩
  simp [L14k3, d1, d2]
  refine goT_of oT ?_
  simp [st1, ldS, g1, g2]
  change T _ _ _ _ (.tuple #[.agg #[iv b.a, iv b.g, iv b.v], .bool f]) _ at dT
  refine goT_of dT ?_
  simp only [vrow] at st2
  by_cases c1 : f' = f
  · have e1 : (f' == f) = true := by simp [c1]
    by_cases c2 : q = b.g
    · have e2 : (q == b.g) = true := by simp [c2]
      obtain ⟨e3, he3⟩ : ∃ e3, e3 = (v == b.v) := ⟨_, rfl⟩
      simp [st2, ldE, e1, a0, b1, e2, a1, b2, a1', b2', ← he3, sf, ldR, packV]
      exact fin _ (fun hR => by have := (hcmp b f ho hR).2.2; rw [he3]; simp [this])
    · have e2 : (q == b.g) = false := by simp [c2]
      simp [st2, ldE, e1, a0, b1, e2, a1, b2, a1', b2', sf, ldR, packV]
      exact fin _ (fun hR => absurd (hcmp b f ho hR).2.1 c2)
  · have e1 : (f' == f) = false := by simp [c1]
    simp [st2, ldE, e1, a0, b1, a1, b2, a1', b2', sf, ldR, packV]
    exact fin _ (fun hR => absurd (hcmp b f ho hR).1 c1)

theorem one4 {H : Heap} (hw : H.WF) {p W R : Nat} {D : SD} (h : ST H p D) (pl : PL D W R) {y : Value} {l : List Vx} (hy : Rv H y l) (hyn : ∀ b, blkOf y = some b → b < H.next ∧ ¬ Mine p D b) (hl : l.length ≤ 100000) (o : Cl) (hk : o.k % 7 = 4) :
    ∃ v H', T Try.prog 14 [ptr p, sV W R y, .agg (orow o).toArray] H v H' ∧ OneR H p W R D l y o v H' := by
  obtain ⟨HC, hHC⟩ : ∃ HC, HC = ((H.new 40 3 [iv W, iv R, y]).new 28 4 (orow o)).new 40 3 [iv 0, iv 0, .slice none 0 0] := ⟨_, rfl⟩
  have V := vs_mk hw W R y o
  rw [← hHC] at V
  have hwC := V.on.wf
  have d0 : HC.load ⟨H.next + 1, 0, none⟩ = some (iv o.k) := V.vO.load 0
  have d1 : HC.load ⟨H.next + 1, 1, none⟩ = some (iv o.w) := V.vO.load 1
  have d2 : HC.load ⟨H.next + 1, 2, none⟩ = some (iv o.g) := V.vO.load 2
  obtain ⟨_, kT, kk, rfl, hkk⟩ := kind_T (H := HC) o.k
  have e4 : kk = 4 := by omega
  subst e4
  have stC := h.on hw V.on
  have hyC := hy.on hw V.on
  have gT := get_T hwC stC pl o.w o.g
  have gv : ∃ u f', getV (getF (cont D) W o.w o.g) = .tuple #[iv u, .bool f'] ∧ (getF (cont D) W o.w o.g = none → u = 0 ∧ f' = false) ∧ ∀ w, getF (cont D) W o.w o.g = some w → u = w ∧ f' = true := by
    cases getF (cont D) W o.w o.g with
    | none => exact ⟨0, false, rfl, fun _ => ⟨rfl, rfl⟩, fun w e => (by cases e)⟩
    | some w => exact ⟨w, true, rfl, fun e => (by cases e), fun w' e => (by cases e; exact ⟨rfl, rfl⟩)⟩
  obtain ⟨u, f', hgv, hg1, hg2⟩ := gv
  rw [hgv] at gT
  obtain ⟨r, fT, hr⟩ := find_T hwC hyC hl W R o.w o.g
  have ldS := V.vS.loadA (m := 3) rfl
  have y2 : HC.load ⟨H.next, 2, none⟩ = some y := V.vS.load 2
  have sf := V.vR.storeA (m := 3) (by decide) [iv W, iv R, y] rfl rfl
  have ldR := (V.vR.put [iv W, iv R, y]).loadA (m := 3) rfl
  have onF : On H (HC.put (H.next + 2) [iv W, iv R, y]) := V.on.put (by omega) _
  have vSF := V.vS.beside (r := H.next + 2) (by omega) [iv W, iv R, y]
  obtain ⟨HF, hHF⟩ : ∃ HF, HF = HC.put (H.next + 2) [iv W, iv R, y] := ⟨_, rfl⟩
  rw [← hHF] at sf ldR onF vSF
  have y2F : HF.load ⟨H.next, 2, none⟩ = some y := vSF.load 2
  have hyF := hy.on hw onF
  have fin : ∀ bb : Bool, (Rel D W R l → bb = true) → OneR H p W R D l y o (.tuple #[sV W R y, .bool bb]) HF := fun bb hb =>
    ⟨y, bb, D, l, rfl, h.on hw onF, pl, hy.on hw onF, fun b hb => ⟨Nat.lt_of_lt_of_le (hyn b hb).1 onF.next, (hyn b hb).2, .inl hb⟩, by omega, Fm.of_on onF p D, fun _ => ⟨by unfold stepC; rw [if_neg (by omega), if_neg (by omega), if_neg (by omega)], by omega⟩, fun hR => ⟨hb hR, hR⟩, fun l2 h2 => ⟨l2, h2⟩⟩
  refine T_by hm light14 ?_
  simp only [orow] at hHC
  simp [L14_eq, sV, orow, ← hHC, d0]
  refine goT_of kT ?_
  simp [L14k4, d1, d2]
  refine goT_of gT ?_
  simp [ldS, d1, d2]
  refine goT_of fT ?_
  by_cases c0 : r < 0
  · cases f' with
    | true =>
      simp [c0, ldS, sf, ldR, packV]
      exact fin _ (fun hR => by have := (hg1 ((rel_get hR hr).1 c0)).2; cases this)
    | false =>
      obtain ⟨e3, he3⟩ : ∃ e3, e3 = (u == 0) := ⟨_, rfl⟩
      simp [c0, ldS, ← he3, sf, ldR, packV]
      exact fin _ (fun hR => by have := (hg1 ((rel_get hR hr).1 c0)).1; rw [he3, this]; rfl)
  · have hr2 := hr
    rcases hr2 with ⟨h1, _⟩ | ⟨i, hi, hri, _, _⟩
    · omega
    · cases f' with
      | false =>
        simp [c0, ldS, sf, ldR, packV]
        exact fin _ (fun hR => by
          obtain ⟨_, hx⟩ := (rel_get hR hr).2 (by omega)
          have := (hg2 _ hx).2
          cases this)
      | true =>
        obtain ⟨b, off, c, hxb, _, _, _, lv⟩ := hyC.get hi
        obtain ⟨b', off', c', hxb', _, _, _, lv'⟩ := hyF.get hi
        rw [hxb] at hxb'
        simp only [Value.slice.injEq, Option.some.injEq, Addr.mk.injEq] at hxb'
        obtain ⟨⟨rfl, rfl, _⟩, _, _⟩ := hxb'
        have hiI : (i : Int) < (l.length : Int) := by omega
        rw [hri]
        rw [hxb] at ldS sf ldR y2 y2F fin ⊢
        have ci : ¬ (i : Int) < 0 := by omega
        obtain ⟨e3, he3⟩ : ∃ e3, e3 = (u == l[i].v) := ⟨_, rfl⟩
        simp [ci, ldS, y2, y2F, hi, hiI, lv, lv', ← he3, sf, ldR, packV]
        exact fin _ (fun hR => by
          obtain ⟨hx1, hx⟩ := (rel_get hR hr).2 (by omega)
          have := (hg2 _ hx).1
          have e : r.toNat = i := by omega
          rw [he3, this]
          simp only [e, beq_self_eq_true])
end Go.Proofs.Ythclcdboialfnaa
namespace Go.Proofs.Ythclcdboialfnaa
open Go.Ot Go.RowKit
set_option linter.unusedSimpArgs false
set_option linter.unusedVariables false
theorem ST.keep {H H' : Heap} {p : Nat} {D : SD} (h : ST H p D) (hB : H'.B = H.B) (hk : ∀ b, Mine p D b → H'.blk b = H.blk b) : ST H' p D := by
  obtain ⟨c, es, hmk, hmi⟩ := h.mp
  refine ⟨by rw [hB]; exact h.hp, by rw [hk p (.inl rfl)]; exact h.bp, h.ar.keep hB (hk _ (.inr (.inl rfl))) (hk _ (.inr (.inr (.inl rfl)))) (hk _ (.inr (.inr (.inr (.inl rfl))))), by rw [hB]; exact h.hv, by rw [hk D.vb (.inr (.inr (.inr (.inr (.inl rfl)))))]; exact h.bv, by rw [hB]; exact h.hc,
    by rw [hk D.cb (.inr (.inr (.inr (.inr (.inr (.inl rfl))))))]; exact h.bc, by rw [hB]; exact h.hm, ⟨c, es, by rw [hk D.mb (.inr (.inr (.inr (.inr (.inr (.inr (.inl rfl)))))))]; exact hmk, hmi⟩, h.len, fun i h1 h2 => (h.cn i h1 h2).keep hB (fun b hb => hk b ?_), h.apart⟩
  exact .inr (.inr (.inr (.inr (.inr (.inr (.inr ⟨_, List.getElem_mem h1, hb⟩))))))
theorem ST.beside {H : Heap} {p : Nat} {D : SD} (h : ST H p D) {b : Nat} (hb : ¬ Mine p D b) (cs : List Value) : ST (H.put b cs) p D :=
  h.keep (by simp) (fun c hc => by
    have : c ≠ b := fun e => hb (by rw [← e]; exact hc)
    simp [this])
theorem Fm.beside {H H1 : Heap} {p : Nat} {D D' : SD} (f : Fm H H1 p D D') {b : Nat} (hb : H.next ≤ b) (cs : List Value) : Fm H (H1.put b cs) p D D' :=
  ⟨WF_put f.wf _ _, f.base, f.next, fun c hc hm' => by simp [show c ≠ b by omega, f.keep c hc hm'], f.new⟩
theorem Vr.fm {H H1 : Heap} {p : Nat} {D D' : SD} (f : Fm H H1 p D D') (hw : H.WF) {q ty n : Nat} {cs : List Value} (v : Vr H q ty n cs) (hq : ¬ Mine p D q) : Vr H1 q ty n cs := v.keep f.base (f.keep q (hw.lt v.bq) hq)
/-- The call's end: both have been called; the answer is laid down. -/
theorem one_end {H HE HF : Heap} {p W R : Nat} {D D' : SD} {y y' : Value} {l l' : List Vx} {o : Cl} {q : Nat} (onE : On H HE) (hq : H.next ≤ q) (hqF : q < HF.next) (fm : Fm HE HF p D D') (st : ST HF p D') (pl : PL D' W R) (stE : ST HE p D) (hyE : Rv HE y' l') (hyn : ∀ b, blkOf y' = some b → b < HE.next ∧ ¬ Mine p D b ∧ b ≠ q ∧ (blkOf y = some b ∨ H.next ≤ b))
    (hqm : ¬ Mine p D' q) (hll : l'.length ≤ l.length + 1) (hst : 1 ≤ D.fr.length → cont D' = stepC W (cont D) o ∧ D.fr.length ≤ D'.fr.length + 1) (cs : List Value) {bb : Bool} (hb : Rel D W R l → bb = true ∧ Rel D' W R l') (hx : ∀ l2, Rel D W R l2 → ∃ l3, Rel D' W R l3) :
    OneR H p W R D l y o (.tuple #[sV W R y', .bool bb]) (HF.put q cs) := by
  refine ⟨y', bb, D', l', rfl, st.beside hqm _, pl, ?_, fun b hb => ?_, hll, ((Fm.of_on onE p D).trans fm).beside hq _, hst, hb, hx⟩
  · refine Rws.keepB (H := HF) (H' := HF.put q cs) rfl (fun b hb => ?_) (On.fm_keep (H := H) fm hyE (fun b hb => ⟨(hyn b hb).1, (hyn b hb).2.1⟩))
    simp [(hyn b hb).2.2.1]
  · refine ⟨Nat.lt_of_lt_of_le (hyn b hb).1 fm.next, fun hm' => ?_, (hyn b hb).2.2.2⟩
    rcases fm.new b hm' with h1 | h1
    · exact (hyn b hb).2.1 h1
    · have := (hyn b hb).1; omega
theorem one5 {H : Heap} (hw : H.WF) {p W R : Nat} {D : SD} (h : ST H p D) (pl : PL D W R) {y : Value} {l : List Vx} (hy : Rv H y l) (hyn : ∀ b, blkOf y = some b → b < H.next ∧ ¬ Mine p D b) (hl : l.length ≤ 100000) (o : Cl) (hk : o.k % 7 = 5) :
    ∃ v H', T Try.prog 14 [ptr p, sV W R y, .agg (orow o).toArray] H v H' ∧ OneR H p W R D l y o v H' := by
  obtain ⟨HC, hHC⟩ : ∃ HC, HC = ((H.new 40 3 [iv W, iv R, y]).new 28 4 (orow o)).new 40 3 [iv 0, iv 0, .slice none 0 0] := ⟨_, rfl⟩
  have V := vs_mk hw W R y o
  rw [← hHC] at V
  have hwC := V.on.wf
  have nC := V.next
  have d0 : HC.load ⟨H.next + 1, 0, none⟩ = some (iv o.k) := V.vO.load 0
  have d1 : HC.load ⟨H.next + 1, 1, none⟩ = some (iv o.w) := V.vO.load 1
  have d2 : HC.load ⟨H.next + 1, 2, none⟩ = some (iv o.g) := V.vO.load 2
  obtain ⟨_, kT, kk, rfl, hkk⟩ := kind_T (H := HC) o.k
  have e5 : kk = 5 := by omega
  subst e5
  have stC := h.on hw V.on
  have hyC := hy.on hw V.on
  obtain ⟨r, fT, hr⟩ := find_T hwC hyC hl W R o.w o.g
  have ldS := V.vS.loadA (m := 3) rfl
  have lim : ∀ b, Mine p D b → b < H.next := fun b hb => h.lt hw hb
  have sC : stepC W (cont D) o = dropF (cont D) W o.w o.g := by unfold stepC; rw [if_neg (by omega), if_pos (by omega)]
  by_cases c0 : 0 ≤ r
  · obtain ⟨v0, HD, dT, y', rfl, onD, hyD, hyn'⟩ := dropD_T hwC hyC hl W R o.w o.g
    have vSD := V.vS.on hwC onD
    have vOD := V.vO.on hwC onD
    have vRD := V.vR.on hwC onD
    have nD := onD.next
    have sS := vSD.storeA (m := 3) (by decide) [iv W, iv R, y'] rfl rfl
    have vSE := vSD.put [iv W, iv R, y']
    have vOE := vOD.beside (r := H.next) (by omega) [iv W, iv R, y']
    have vRE := vRD.beside (r := H.next) (by omega) [iv W, iv R, y']
    have onE : On H (HD.put H.next [iv W, iv R, y']) := (V.on.trans onD).put (Nat.le_refl _) _
    have hyE : Rv (HD.put H.next [iv W, iv R, y']) y' (l.filter (keepD o.w o.g)) := Rws.keepB (H := HD) (H' := HD.put H.next [iv W, iv R, y']) rfl (fun b hb => by have := (hyn' b hb).1; simp [show b ≠ H.next by omega]) hyD
    obtain ⟨HE, hHE⟩ : ∃ HE, HE = HD.put H.next [iv W, iv R, y'] := ⟨_, rfl⟩
    have nE : HE.next = HD.next := by rw [hHE]; rfl
    have hltE : ∀ b, blkOf y' = some b → b < HE.next := fun b hb => by have := (hyn' b hb).2; omega
    rw [← hHE] at sS vSE vOE vRE onE hyE
    have stE := h.on hw onE
    obtain ⟨rb, HF, D', sT, hrb, stF, plF, fm, hfl, hcc⟩ := drop_T onE.wf stE pl o.w o.g
    have m0 : ∀ j, ¬ Mine p D (H.next + j) := fun j hm' => by have := lim _ hm'; omega
    have vSF := Vr.fm fm onE.wf vSE (m0 0)
    have vRF := Vr.fm fm onE.wf vRE (m0 2)
    have ldE := vSE.loadA (m := 3) rfl
    have ldF := vSF.loadA (m := 3) rfl
    have g1 : HE.load ⟨H.next + 1, 1, none⟩ = some (iv o.w) := vOE.load 1
    have g2 : HE.load ⟨H.next + 1, 2, none⟩ = some (iv o.g) := vOE.load 2
    have sf := vRF.storeA (m := 3) (by decide) [iv W, iv R, y'] rfl rfl
    have ldR := (vRF.put [iv W, iv R, y']).loadA (m := 3) rfl
    have vSG := vSF.beside (r := H.next + 2) (by omega) [iv W, iv R, y']
    have nF := fm.next
    have fin : ∀ bb, (Rel D W R l → bb = true) → OneR H p W R D l y o (.tuple #[sV W R y', .bool bb]) (HF.put (H.next + 2) [iv W, iv R, y']) := fun bb hb =>
      one_end (l' := l.filter (keepD o.w o.g)) onE (by omega) (by omega) fm stF plF stE hyE (fun b hb => ⟨hltE b hb, fun hm' => by have := lim _ hm'; have := (hyn' b hb).1; omega, by have := (hyn' b hb).1; omega, .inr (by have := (hyn' b hb).1; omega)⟩) (fun hm' => by
        rcases fm.new _ hm' with h1 | h1
        · exact m0 2 h1
        · omega) (by have := filter_le l (keepD o.w o.g); omega) (fun _ => ⟨by rw [sC]; funext b g; exact hcc b g, by split at hfl <;> omega⟩) _ (fun hR => by
        have := rel_drop hR hr hrb hfl hcc
        rw [if_pos c0] at this
        exact ⟨hb hR, this.2⟩) (fun l2 h2 => by
        obtain ⟨r2, hr2⟩ := findV_ex l2 o.w o.g
        exact ⟨_, (rel_drop h2 hr2 hrb hfl hcc).2⟩)
    obtain ⟨HG, hHG⟩ : ∃ HG, HG = HF.put (H.next + 2) [iv W, iv R, y'] := ⟨_, rfl⟩
    rw [← hHG] at sf ldR vSG fin
    have ldG := vSG.loadA (m := 3) rfl
    refine T_by hm light14 ?_
    simp only [orow] at hHC
    simp [L14_eq, sV, orow, ← hHC, d0]
    refine goT_of kT ?_
    simp [L14k5, ldS, d1, d2]
    refine goT_of fT ?_
    simp [c0, ldS, d1, d2]
    refine goT_of dT ?_
    simp [sV, sS, ldE, g1, g2]
    refine goT_of sT ?_
    simp [ldF, sf, ldR, ldG]
    exact fin rb (fun hR => by rw [(rel_drop hR hr hrb hfl hcc).1]; simp [c0])
  · obtain ⟨rb, HF, D', sT, hrb, stF, plF, fm, hfl, hcc⟩ := drop_T hwC stC pl o.w o.g
    have m0 : ∀ j, ¬ Mine p D (H.next + j) := fun j hm' => by have := lim _ hm'; omega
    have vSF := Vr.fm fm hwC V.vS (m0 0)
    have vRF := Vr.fm fm hwC V.vR (m0 2)
    have ldF := vSF.loadA (m := 3) rfl
    have sf := vRF.storeA (m := 3) (by decide) [iv W, iv R, y] rfl rfl
    have ldR := (vRF.put [iv W, iv R, y]).loadA (m := 3) rfl
    have vSG := vSF.beside (r := H.next + 2) (by omega) [iv W, iv R, y]
    have nF := fm.next
    have fin : ∀ bb, (Rel D W R l → bb = true) → OneR H p W R D l y o (.tuple #[sV W R y, .bool bb]) (HF.put (H.next + 2) [iv W, iv R, y]) := fun bb hb =>
      one_end (l' := l) V.on (by omega) (by omega) fm stF plF stC hyC (fun b hb => ⟨by have := (hyn b hb).1; omega, (hyn b hb).2, by have := (hyn b hb).1; omega, .inl hb⟩) (fun hm' => by
        rcases fm.new _ hm' with h1 | h1
        · exact m0 2 h1
        · omega) (by omega) (fun _ => ⟨by rw [sC]; funext b g; exact hcc b g, by split at hfl <;> omega⟩) _ (fun hR => by
        have := rel_drop hR hr hrb hfl hcc
        rw [if_neg c0] at this
        exact ⟨hb hR, this.2⟩) (fun l2 h2 => by
        obtain ⟨r2, hr2⟩ := findV_ex l2 o.w o.g
        exact ⟨_, (rel_drop h2 hr2 hrb hfl hcc).2⟩)
    obtain ⟨HG, hHG⟩ : ∃ HG, HG = HF.put (H.next + 2) [iv W, iv R, y] := ⟨_, rfl⟩
    rw [← hHG] at sf ldR vSG fin
    have ldG := vSG.loadA (m := 3) rfl
    obtain ⟨e3, he3⟩ : ∃ e3, e3 = (rb == false) := ⟨_, rfl⟩
    refine T_by hm light14 ?_
    simp only [orow] at hHC
    simp [L14_eq, sV, orow, ← hHC, d0]
    refine goT_of kT ?_
    simp [L14k5, ldS, d1, d2]
    refine goT_of fT ?_
    simp [c0, ldS, d1, d2]
    refine goT_of sT ?_
    simp [ldF, sf, ldR, ldG]
    exact fin (!rb) (fun hR => by rw [(rel_drop hR hr hrb hfl hcc).1]; simp [c0])
theorem one6 {H : Heap} (hw : H.WF) {p W R : Nat} {D : SD} (h : ST H p D) (pl : PL D W R) {y : Value} {l : List Vx} (hy : Rv H y l) (hyn : ∀ b, blkOf y = some b → b < H.next ∧ ¬ Mine p D b) (hl : l.length ≤ 100000) (o : Cl) (hk : o.k % 7 = 6) :
    ∃ v H', T Try.prog 14 [ptr p, sV W R y, .agg (orow o).toArray] H v H' ∧ OneR H p W R D l y o v H' := by
  obtain ⟨HC, hHC⟩ : ∃ HC, HC = ((H.new 40 3 [iv W, iv R, y]).new 28 4 (orow o)).new 40 3 [iv 0, iv 0, .slice none 0 0] := ⟨_, rfl⟩
  have V := vs_mk hw W R y o
  rw [← hHC] at V
  have hwC := V.on.wf
  have nC := V.next
  have d0 : HC.load ⟨H.next + 1, 0, none⟩ = some (iv o.k) := V.vO.load 0
  have d2 : HC.load ⟨H.next + 1, 2, none⟩ = some (iv o.g) := V.vO.load 2
  obtain ⟨_, kT, kk, rfl, hkk⟩ := kind_T (H := HC) o.k
  have e6 : kk = 6 := by omega
  subst e6
  have hyC := hy.on hw V.on
  have ldS := V.vS.loadA (m := 3) rfl
  have lim : ∀ b, Mine p D b → b < H.next := fun b hb => h.lt hw hb
  have sC : stepC W (cont D) o = fun b g => if g = o.g then none else cont D b g := by unfold stepC; rw [if_neg (by omega), if_neg (by omega), if_pos (by omega)]
  obtain ⟨v0, HD, dT, y', rfl, onD, hyD, hyn'⟩ := dropD_T hwC hyC hl W R (-1) o.g
  obtain ⟨n, hn⟩ : ∃ n, n = l.length - (l.filter (keepD (-1) o.g)).length := ⟨_, rfl⟩
  rw [← hn] at dT
  have nD := onD.next
  have st1 := new_storeA onD.wf 40 3 [iv 0, iv 0, .slice none 0 0] [iv W, iv R, y'] rfl rfl (by decide)
  obtain ⟨HE, hHE⟩ : ∃ HE, HE = HD.new 40 3 [iv W, iv R, y'] := ⟨_, rfl⟩
  have onE : On HD HE := by rw [hHE]; exact (On.refl onD.wf).new _ _ _
  have nE : HE.next = HD.next + 1 := by rw [hHE]; rfl
  have vT : Vr HE HD.next 40 3 [iv W, iv R, y'] := by rw [hHE]; exact Vr.mk' onD.wf _ _ _
  rw [← hHE] at st1
  have vOE := (V.vO.on hwC onD).on onD.wf onE
  have vRE := (V.vR.on hwC onD).on onD.wf onE
  have onHE := (V.on.trans onD).trans onE
  have hyE := hyD.on onD.wf onE
  have stE := h.on hw onHE
  obtain ⟨v1, HF, sT, rfl, D', stF, plF, fm, hfl, hcc⟩ := dropall_T onHE.wf stE pl o.g
  obtain ⟨n2, hn2⟩ : ∃ n2, n2 = manyF (cont D) o.g W := ⟨_, rfl⟩
  rw [← hn2] at sT
  have m0 : ∀ j, H.next ≤ j → ¬ Mine p D j := fun j hj hm' => by have := lim _ hm'; omega
  have vTF := Vr.fm fm onHE.wf vT (m0 _ (by omega))
  have vRF := Vr.fm fm onHE.wf vRE (m0 _ (by omega))
  have ldE := vT.loadA (m := 3) rfl
  have ldF := vTF.loadA (m := 3) rfl
  have g2 : HE.load ⟨H.next + 1, 2, none⟩ = some (iv o.g) := vOE.load 2
  have sf := vRF.storeA (m := 3) (by decide) [iv W, iv R, y'] rfl rfl
  have ldR := (vRF.put [iv W, iv R, y']).loadA (m := 3) rfl
  have vTG := vTF.beside (r := H.next + 2) (by omega) [iv W, iv R, y']
  have nF := fm.next
  have fin : ∀ bb, (Rel D W R l → bb = true) → OneR H p W R D l y o (.tuple #[sV W R y', .bool bb]) (HF.put (H.next + 2) [iv W, iv R, y']) := fun bb hb =>
    one_end (l' := l.filter (keepD (-1) o.g)) onHE (by omega) (by omega) fm stF plF stE hyE (fun b hb => ⟨by have := (hyn' b hb).2; omega, m0 _ (by have := (hyn' b hb).1; omega), by have := (hyn' b hb).1; omega, .inr (by have := (hyn' b hb).1; omega)⟩) (fun hm' => by
      rcases fm.new _ hm' with h1 | h1
      · exact m0 _ (by omega) h1
      · omega) (by have := filter_le l (keepD (-1) o.g); omega) (fun _ => ⟨by rw [sC]; funext b g; exact hcc b g, by omega⟩) _ (fun hR => ⟨hb hR, rel_dropall hR hfl hcc⟩) (fun l2 h2 => ⟨_, rel_dropall h2 hfl hcc⟩)
  obtain ⟨HG, hHG⟩ : ∃ HG, HG = HF.put (H.next + 2) [iv W, iv R, y'] := ⟨_, rfl⟩
  rw [← hHG] at sf ldR vTG fin
  have ldG := vTG.loadA (m := 3) rfl
  obtain ⟨e3, he3⟩ : ∃ e3, e3 = (((n2 : Nat) : Int) == ((n : Nat) : Int)) := ⟨_, rfl⟩
  refine T_by hm light14 ?_
  simp only [orow] at hHC
  simp [L14_eq, sV, orow, ← hHC, d0]
  refine goT_of kT ?_
  simp [L14k6, ldS, d2]
  refine goT_of dT ?_
  simp [sV, st1, ldE, g2]
  refine goT_of sT ?_
  simp [ldF, ← he3, sf, ldR, ldG]
  exact fin e3 (fun hR => by rw [he3, hn2, hn, many_len hR]; simp)
theorem one0 {H : Heap} (hw : H.WF) {p W R : Nat} {D : SD} (h : ST H p D) (pl : PL D W R) {y : Value} {l : List Vx} (hy : Rv H y l) (hyn : ∀ b, blkOf y = some b → b < H.next ∧ ¬ Mine p D b) (hl : l.length ≤ 100000) (o : Cl) (hk : o.k % 7 < 3) :
    ∃ v H', T Try.prog 14 [ptr p, sV W R y, .agg (orow o).toArray] H v H' ∧ OneR H p W R D l y o v H' := by
  obtain ⟨HC, hHC⟩ : ∃ HC, HC = ((H.new 40 3 [iv W, iv R, y]).new 28 4 (orow o)).new 40 3 [iv 0, iv 0, .slice none 0 0] := ⟨_, rfl⟩
  have V := vs_mk hw W R y o
  rw [← hHC] at V
  have hwC := V.on.wf
  have nC := V.next
  have d0 : HC.load ⟨H.next + 1, 0, none⟩ = some (iv o.k) := V.vO.load 0
  have d1 : HC.load ⟨H.next + 1, 1, none⟩ = some (iv o.w) := V.vO.load 1
  have d2 : HC.load ⟨H.next + 1, 2, none⟩ = some (iv o.g) := V.vO.load 2
  have d3 : HC.load ⟨H.next + 1, 3, none⟩ = some (iv o.v) := V.vO.load 3
  obtain ⟨_, kT, kk, rfl, hkk⟩ := kind_T (H := HC) o.k
  have n3 : (kk == 3) = false := by simp; omega
  have n4 : (kk == 4) = false := by simp; omega
  have n5 : (kk == 5) = false := by simp; omega
  have n6 : (kk == 6) = false := by simp; omega
  have hyC := hy.on hw V.on
  have ldS := V.vS.loadA (m := 3) rfl
  have lim : ∀ b, Mine p D b → b < H.next := fun b hb => h.lt hw hb
  have sC : stepC W (cont D) o = putF (cont D) W o.w o.g o.v := by unfold stepC; rw [if_pos hk]
  obtain ⟨r, hr, v0, HD, dT, y', rfl, onD, hyD, hyn'⟩ := putD_T hwC hyC hl W R o.w o.g o.v
  have nD := onD.next
  obtain ⟨l', hl'⟩ : ∃ l', l' = (putVal l W R o.w o.g o.v r).1 := ⟨_, rfl⟩
  obtain ⟨ed, hed⟩ : ∃ ed, ed = (putVal l W R o.w o.g o.v r).2 := ⟨_, rfl⟩
  rw [← hed] at dT
  rw [← hl'] at hyD
  have hll : l'.length ≤ l.length + 1 := by
    rw [hl']; unfold putVal
    split
    · simp
    · split
      · simp
      · split
        · split <;> simp
        · simp
  have st1 := new_storeA onD.wf 40 3 [iv 0, iv 0, .slice none 0 0] [iv W, iv R, y'] rfl rfl (by decide)
  obtain ⟨HE, hHE⟩ : ∃ HE, HE = HD.new 40 3 [iv W, iv R, y'] := ⟨_, rfl⟩
  have onE : On HD HE := by rw [hHE]; exact (On.refl onD.wf).new _ _ _
  have nE : HE.next = HD.next + 1 := by rw [hHE]; rfl
  have vT : Vr HE HD.next 40 3 [iv W, iv R, y'] := by rw [hHE]; exact Vr.mk' onD.wf _ _ _
  rw [← hHE] at st1
  have vOE := (V.vO.on hwC onD).on onD.wf onE
  have vRE := (V.vR.on hwC onD).on onD.wf onE
  have onHE := (V.on.trans onD).trans onE
  have hyE := hyD.on onD.wf onE
  have stE := h.on hw onHE
  obtain ⟨HF, D', sT, stF, plF, fm, hfl, hcc⟩ := put_TT onHE.wf stE pl o.w o.g o.v
  obtain ⟨es, hes⟩ : ∃ es, es = putE (cont D) W D.fr.length o.w o.g := ⟨_, rfl⟩
  rw [← hes] at sT hfl hcc
  have m0 : ∀ j, H.next ≤ j → ¬ Mine p D j := fun j hj hm' => by have := lim _ hm'; omega
  have vTF := Vr.fm fm onHE.wf vT (m0 _ (by omega))
  have vRF := Vr.fm fm onHE.wf vRE (m0 _ (by omega))
  have ldE := vT.loadA (m := 3) rfl
  have ldF := vTF.loadA (m := 3) rfl
  have g1 : HE.load ⟨H.next + 1, 1, none⟩ = some (iv o.w) := vOE.load 1
  have g2 : HE.load ⟨H.next + 1, 2, none⟩ = some (iv o.g) := vOE.load 2
  have g3 : HE.load ⟨H.next + 1, 3, none⟩ = some (iv o.v) := vOE.load 3
  have sf := vRF.storeA (m := 3) (by decide) [iv W, iv R, y'] rfl rfl
  have ldR := (vRF.put [iv W, iv R, y']).loadA (m := 3) rfl
  have vTG := vTF.beside (r := H.next + 2) (by omega) [iv W, iv R, y']
  have nF := fm.next
  have fin : ∀ bb, (Rel D W R l → bb = true) → OneR H p W R D l y o (.tuple #[sV W R y', .bool bb]) (HF.put (H.next + 2) [iv W, iv R, y']) := fun bb hb =>
    one_end (l' := l') onHE (by omega) (by omega) fm stF plF stE hyE (fun b hb => by
      rcases hyn' b hb with h1 | h1
      · have := (hyn b h1).1
        exact ⟨by omega, (hyn b h1).2, by omega, .inl h1⟩
      · exact ⟨by omega, m0 _ (by omega), by omega, .inr (by omega)⟩) (fun hm' => by
      rcases fm.new _ hm' with h1 | h1
      · exact m0 _ (by omega) h1
      · omega) hll (fun h1 => by
      have h0 : es = 0 ↔ 0 ≤ o.w ∧ o.w < W ∧ 0 ≤ o.g := by
        rw [hes]; unfold putE
        split
        · constructor
          · intro e; omega
          · intro e; omega
        · split
          · constructor
            · intro e; omega
            · intro e; omega
          · rw [if_neg (by omega)]
            constructor
            · intro _; omega
            · intro _; rfl
      refine ⟨?_, by split at hfl <;> omega⟩
      rw [sC]
      funext b g
      rw [hcc]
      unfold putF
      by_cases hx : es = 0
      · have := h0.1 hx
        by_cases hy2 : b = o.w.toNat ∧ g = o.g
        · rw [if_pos ⟨hx, hy2⟩, if_pos ⟨this.1, this.2.1, this.2.2, hy2⟩]
        · rw [if_neg (fun z => hy2 z.2), if_neg (fun z => hy2 z.2.2.2)]
      · rw [if_neg (fun z => hx z.1), if_neg (fun z => hx (h0.2 ⟨z.1, z.2.1, z.2.2.1⟩))]) _ (fun hR => ⟨hb hR, by rw [hl']; exact (rel_put hR hr hes hfl hcc).2⟩) (fun l2 h2 => by
        obtain ⟨r2, hr2⟩ := findV_ex l2 o.w o.g
        exact ⟨_, (rel_put (v := o.v) h2 hr2 hes hfl hcc).2⟩)
  obtain ⟨HG, hHG⟩ : ∃ HG, HG = HF.put (H.next + 2) [iv W, iv R, y'] := ⟨_, rfl⟩
  rw [← hHG] at sf ldR vTG fin
  have ldG := vTG.loadA (m := 3) rfl
  obtain ⟨e3, he3⟩ : ∃ e3, e3 = (es == ed) := ⟨_, rfl⟩
  refine T_by hm light14 ?_
  simp only [orow] at hHC
  simp [L14_eq, sV, orow, ← hHC, d0]
  refine goT_of kT ?_
  simp [n3, n4, n5, n6, L14d, ldS, d1, d2, d3]
  refine goT_of dT ?_
  simp [sV, st1, ldE, g1, g2, g3]
  refine goT_of sT ?_
  simp [ldF, ← he3, sf, ldR, ldG]
  exact fin e3 (fun hR => by rw [he3, hed, (rel_put hR hr hes hfl hcc).1]; simp)
/-- A call of both, whatever it is. -/
theorem one_T {H : Heap} (hw : H.WF) {p W R : Nat} {D : SD} (h : ST H p D) (pl : PL D W R) {y : Value} {l : List Vx} (hy : Rv H y l) (hyn : ∀ b, blkOf y = some b → b < H.next ∧ ¬ Mine p D b) (hl : l.length ≤ 100000) (o : Cl) :
    ∃ v H', T Try.prog 14 [ptr p, sV W R y, .agg (orow o).toArray] H v H' ∧ OneR H p W R D l y o v H' := by
  by_cases h3 : o.k % 7 < 3
  · exact one0 hw h pl hy hyn hl o h3
  by_cases h4 : o.k % 7 = 3
  · exact one3 hw h pl hy hyn hl o h4
  by_cases h5 : o.k % 7 = 4
  · exact one4 hw h pl hy hyn hl o h5
  by_cases h6 : o.k % 7 = 5
  · exact one5 hw h pl hy hyn hl o h6
  exact one6 hw h pl hy hyn hl o (by omega)
end Go.Proofs.Ythclcdboialfnaa
namespace Go.Proofs.Ythclcdboialfnaa
open Go.Ot Go.RowKit
set_option linter.unusedSimpArgs false
set_option linter.unusedVariables false
def c2 (l : List (Int × Int)) : List Value := (l.map fun q => [iv q.1, iv q.2]).flatten
theorem c2_snoc (l : List (Int × Int)) (q : Int × Int) : c2 (l ++ [q]) = c2 l ++ [iv q.1, iv q.2] := by simp [c2]
/-- The versions of a word, as told. -/
def told (D : SD) (a : Nat) : List (Int × Int) := (D.ch.getD a []).map fun q => (q.1, D.vals.getD q.2.toNat 0)
def InvCh (H : Heap) (p a : Nat) (D : SD) (k : Nat) (t : Tm) (H1 : Heap) : Prop :=
  ∃ i y, i + k = (D.ch.getD a []).length ∧ t 0 = ptr p ∧ t 5 = y ∧ t 18 = D.xs.getD a .nilFunc ∧ t 19 = iv (D.ch.getD a []).length ∧ t 20 = iv (i : Nat) ∧ Row H H1 33 2 ((told D a).take i).length (c2 ((told D a).take i)) y
theorem chain_T {H : Heap} (hw : H.WF) {p W R : Nat} {D : SD} (h : ST H p D) (pl : PL D W R) {a : Nat} (ha : a < W) : ∃ y H', T Try.prog 16 [ptr p, iv a] H y H' ∧ Row H H' 33 2 (told D a).length (c2 (told D a)) y := by
  have hx : a < D.xs.length := by rw [pl.hW]; omega
  have hc : a < D.ch.length := by rw [pl.hch]; omega
  have iT := inside_T h (a : Int)
  have hin : inV D (a : Int) = true := by simp [inV, hx]
  rw [hin] at iT
  have haI : (a : Int) < (D.xs.length : Int) := by omega
  have lc := h.lc hx
  have cn := h.cn a hx hc
  obtain ⟨l, hl⟩ : ∃ l, l = D.ch[a] := ⟨_, rfl⟩
  obtain ⟨x, hxx⟩ : ∃ x, x = D.xs[a] := ⟨_, rfl⟩
  have hlD : D.ch.getD a [] = l := by rw [hl]; simp [List.getD, hc]
  have hxD : D.xs.getD a .nilFunc = x := by rw [hxx]; simp [List.getD, hx]
  have hll : l.length ≤ R := by rw [hl]; exact pl.long a hc
  have hR1 := pl.R1
  rw [← hl, ← hxx] at cn
  rw [← hxx] at lc
  have tl : (told D a).length = l.length := by unfold told; rw [hlD]; simp
  obtain ⟨ax, cx, hxe⟩ := cn.len
  refine T_by hm light16 ?_
  simp [L16]
  refine goT_of iT ?_
  have lc' := lc
  rw [hxe] at lc'
  simp [h.l2, hx, haI, lc']
  refine loop_at (InvCh H p a D) l.length ?_ ?_
  · refine ⟨0, .slice none 0 0, by rw [hlD]; omega, by simp, by simp, by rw [hxD, hxe]; simp, by rw [hlD]; simp, by simp, by simpa [c2] using Row.nil hw 33 2⟩
  · rintro k t H1 ⟨i, y, hik, t0, t5, t18, t19, t20, row⟩
    rw [hlD] at hik t19
    rw [hxD] at t18
    obtain ⟨ay, hye⟩ := row.own.len
    have on1 := row.on
    cases k with
    | zero =>
      have e0 : i = l.length := by omega
      have hnt : notTup y = true := by rw [hye]; rfl
      rw [e0, List.take_of_length_le (by omega)] at row
      simp [L16_1, t19, t20, e0, t5, hnt, packV]
      exact row
    | succ k =>
      have hi : i < l.length := by omega
      have hiI : (i : Int) < (l.length : Int) := by omega
      have st1 := h.on hw on1
      have cn1 := cn.keep (B_eq on1.base) (fun b hb => on1.keep b (cn.lt hw hb))
      obtain ⟨b, c, hxb, l0, l1, lN⟩ := cn1.get hi
      simp only [Nat.zero_add] at lN
      rw [hxb] at t18
      obtain ⟨q, hq⟩ : ∃ q, q = l[i] := ⟨_, rfl⟩
      rw [← hq] at lN
      obtain ⟨own, hown⟩ := pl.own
      have hqo := hown a hc q (by rw [hq, ← hl]; exact List.getElem_mem hi)
      obtain ⟨s, hs⟩ : ∃ s, s = q.2.toNat := ⟨_, rfl⟩
      have eqs : q.2 = (s : Int) := by omega
      rw [eqs] at lN
      have hsR : s < D.vals.length := by rw [pl.hR]; omega
      have hsI : (s : Int) < (D.vals.length : Int) := by omega
      have stn := new_storeA on1.wf 65 2 [iv 0, iv 0] [iv q.1, iv s] rfl rfl (by decide)
      obtain ⟨HA, hHA⟩ : ∃ HA, HA = H1.new 65 2 [iv q.1, iv s] := ⟨_, rfl⟩
      have onA : On H1 HA := by rw [hHA]; exact (On.refl on1.wf).new _ _ _
      have nA : HA.next = H1.next + 1 := by rw [hHA]; rfl
      have vA : Vr HA H1.next 65 2 [iv q.1, iv s] := by rw [hHA]; exact Vr.mk' on1.wf _ _ _
      rw [← hHA] at stn
      have f0 : HA.load ⟨H1.next, 0, none⟩ = some (iv q.1) := vA.load 0
      have f1 : HA.load ⟨H1.next, 1, none⟩ = some (iv s) := vA.load 1
      have stA := st1.on on1.wf onA
      have lv := stA.lv hsR
      have l1p := stA.l1
      have rowA : Row H HA 33 2 ((told D a).take i).length (c2 ((told D a).take i)) y := by rw [hHA]; exact row.onN _ _ _
      obtain ⟨HC, ap, row2⟩ := rowA.push [iv q.1, iv D.vals[s]] rfl (by decide) 16 (by rw [List.length_take]; omega)
      have w1 : IntKind.i64.wrap ((i : Int) + 1) = ((i + 1 : Nat) : Int) := by rw [w64 _ (by omega)]; omega
      have tk : (told D a).take (i + 1) = (told D a).take i ++ [(q.1, D.vals[s])] := by
        rw [List.take_add_one]
        congr 1
        unfold told
        rw [hlD]
        simp [hi, ← hq, ← hs, List.getD, hsR]
      have z2 : zerosA [iv 0, iv 0] 2 = [iv 0, iv 0] := rfl
      have eN : (c2 ((told D a).take i) ++ [iv q.1, iv D.vals[s]]) = c2 ((told D a).take (i + 1)) := by rw [tk, c2_snoc]
      have hlen : ((told D a).take i).length + 1 = ((told D a).take (i + 1)).length := by rw [tk]; simp
      rw [eN, hlen] at row2
      rw [hlen] at ap
      obtain ⟨z, hz⟩ : ∃ z, z = Value.slice (some ⟨HA.next + 1, 0, none⟩) ((told D a).take (i + 1)).length 0 := ⟨_, rfl⟩
      rw [← hz] at ap row2
      simp [L16_1, t0, t18, t19, t20, hi, hiI, lN, stn, f0, f1, l1p, hsR, hsI, lv, t5, z2, ap, w1]
      exact ⟨k, by omega, i + 1, z, by rw [hlD]; omega, by simp [t0], by simp, by rw [hxD, hxb]; simp [t18], by rw [hlD]; simp [t19], by simp, row2⟩
theorem chain_out {H : Heap} {p : Nat} {D : SD} (h : ST H p D) {a : Int} (hin : inV D a = false) : T Try.prog 16 [ptr p, iv a] H (.slice none 0 0) H := by
  have iT := inside_T h a
  rw [hin] at iT
  refine T_eq hm light16 ?_
  simp [L16]
  refine goT_of iT ?_
  simp [packV]
theorem told_rise {D : SD} {W R : Nat} (pl : PL D W R) {a : Nat} (ha : a < W) : (told D a).Pairwise fun x y => x.1 < y.1 := by
  have hc : a < D.ch.length := by rw [pl.hch]; omega
  unfold told
  have : D.ch.getD a [] = D.ch[a] := by simp [List.getD, hc]
  rw [this]
  exact List.pairwise_map.2 (pl.rise a hc)
theorem told_iff {D : SD} {W R : Nat} (pl : PL D W R) {a : Nat} (ha : a < W) {g v : Int} : (g, v) ∈ told D a ↔ cont D a g = some v := by
  have hc : a < D.ch.length := by rw [pl.hch]; omega
  rw [cont_iff pl.toPK]
  unfold told
  have : D.ch.getD a [] = D.ch[a] := by simp [List.getD, hc]
  rw [this, List.mem_map]
  constructor
  · rintro ⟨q, hq, e⟩
    simp only [Prod.mk.injEq] at e
    exact ⟨hc, q, hq, e.1, e.2⟩
  · rintro ⟨_, q, hq, e1, e2⟩
    exact ⟨q, hq, by rw [e1, e2]⟩
/-- Two rising rows with the same members are one. -/
theorem rise_ext : ∀ {l m : List (Int × Int)}, l.Pairwise (fun x y => x.1 < y.1) → m.Pairwise (fun x y => x.1 < y.1) → (∀ x, x ∈ l ↔ x ∈ m) → l = m
  | [], [], _, _, _ => rfl
  | [], b :: m, _, _, h => by have := (h b).2 (by simp); cases this
  | a :: l, [], _, _, h => by have := (h a).1 (by simp); cases this
  | a :: l, b :: m, hl, hm', h => by
    obtain ⟨l1, l2⟩ := List.pairwise_cons.1 hl
    obtain ⟨m1, m2⟩ := List.pairwise_cons.1 hm'
    have hab : a = b := by
      rcases List.mem_cons.1 ((h a).1 (by simp)) with e | e
      · exact e
      · rcases List.mem_cons.1 ((h b).2 (by simp)) with f | f
        · exact f.symm
        · have := m1 a e; have := l1 b f; omega
    subst hab
    congr 1
    refine rise_ext l2 m2 (fun x => ?_)
    constructor
    · intro hx
      rcases List.mem_cons.1 ((h x).1 (by simp [hx])) with e | e
      · subst e; have := l1 x hx; omega
      · exact e
    · intro hx
      rcases List.mem_cons.1 ((h x).2 (by simp [hx])) with e | e
      · subst e; have := m1 x hx; omega
      · exact e
end Go.Proofs.Ythclcdboialfnaa
