/-
  Chapter 21: all that is told of a store is the document's.
-/
import Derived.Test.YthclcdboialfnaaSeatS
import Derived.Test.YthclcdboialfnaaSeatAE
namespace Go.Proofs.Ythclcdboialfnaa
open Go.Ot Go.RowKit
set_option linter.unusedSimpArgs false
set_option linter.unusedVariables false
theorem row_get {H H1 : Heap} {ss : List Int} {v : Value} (r : Row H H1 3 1 ss.length (ss.map iv) v) {i : Nat} (hi : i < ss.length) : ∃ b off c, v = .slice (some ⟨b, off, none⟩) ss.length c ∧ H1.load ⟨b, off + i, none⟩ = some (iv ss[i]) := by
  have hs : ∀ r ∈ ss.map (fun n => [iv n]), r.length = 1 := by
    intro r hr; obtain ⟨q, _, rfl⟩ := List.mem_map.1 hr; rfl
  have hf : (ss.map fun n => [iv n]).flatten = ss.map iv := by
    clear r hi hs
    induction ss with
    | nil => rfl
    | cons a l ih => simp [ih]
  have ow : Own H1 3 1 (ss.map fun n => [iv n]).length (ss.map fun n => [iv n]).flatten v := by rw [hf]; simpa using r.own
  obtain ⟨b, off, c, hx, h1, h2, h3⟩ := Rws.at (ow.rws hs) (i := i) (by simpa using hi)
  have := h3 0 (by simp)
  simp only [List.getElem_map, Nat.mul_one, Nat.add_zero, List.getElem_cons_zero] at this
  exact ⟨b, off, c, by simpa using hx, this⟩
theorem Row.laterF {H H1 H2 : Heap} {ety sz n : Nat} {cells : List Value} {y : Value} (r : Row H H1 ety sz n cells y) (o : On H1 H2) : Row H H2 ety sz n cells y := ⟨Own.on r.on.wf r.own o, r.on.trans o, r.new⟩
theorem rw2_getF {H : Heap} {H0 : Heap} {l : List (Int × Int)} {y : Value} (row : Row H0 H 33 2 l.length (c2 l) y) {i : Nat} (hi : i < l.length) : ∃ b off c, y = .slice (some ⟨b, off, none⟩) l.length c ∧ H.load ⟨b, off + i * 2, none⟩ = some (iv l[i].1) ∧ H.load ⟨b, off + i * 2 + 1, none⟩ = some (iv l[i].2) := by
  have hs : ∀ r ∈ l.map (fun q => [iv q.1, iv q.2]), r.length = 2 := by
    intro r hr; obtain ⟨q, _, rfl⟩ := List.mem_map.1 hr; rfl
  have ow : Own H 33 2 (l.map fun q => [iv q.1, iv q.2]).length (l.map fun q => [iv q.1, iv q.2]).flatten y := by simpa [c2] using row.own
  obtain ⟨b, off, c, hx, h1, h2, h3⟩ := Rws.at (ow.rws hs) (i := i) (by simpa using hi)
  simp only [List.getElem_map] at h3
  exact ⟨b, off, c, by simpa using hx, h3 0 (by simp), h3 1 (by simp)⟩
/-- The two chains of a word are one. -/
theorem chain_eq {D : SD} {W R : Nat} {l : List Vx} (h : Rel D W R l) (pl : PL D W R) {a : Nat} (ha : a < W) {X : List Vx} (hr : X.Pairwise fun x z => x.g < z.g) (hm1 : ∀ x, x ∈ X → x ∈ l ∧ x.a = (a : Int)) (hm2 : ∀ v ∈ l, v.a = (a : Int) → -1 < v.g → ∃ x ∈ X, x.g = v.g) :
    told D a = X.map fun x => (x.g, x.v) := by
  refine rise_ext (told_rise pl ha) (List.pairwise_map.2 hr) (fun x => ?_)
  obtain ⟨g, v⟩ := x
  rw [told_iff pl ha, h.has, List.mem_map]
  constructor
  · rintro ⟨q, hq, e1, e2, e3⟩
    have hg := (h.rng q hq).2.2
    obtain ⟨x, hx, e⟩ := hm2 q hq e1 (by omega)
    have := h.uniq (hm1 x hx).1 hq (by rw [(hm1 x hx).2, e1]) e
    subst this
    exact ⟨x, hx, by rw [e2, e3]⟩
  · rintro ⟨x, hx, e⟩
    simp only [Prod.mk.injEq] at e
    exact ⟨x, (hm1 x hx).1, (hm1 x hx).2, e.1, e.2⟩
def InvS1 (H0 : Heap) (p q : Nat) (v1 v2 : Value) (n : Nat) (k : Nat) (t : Tm) (H1 : Heap) : Prop :=
  ∃ i : Nat, i + k = n ∧ t 0 = ptr p ∧ t 3 = ptr q ∧ t 5 = v1 ∧ t 6 = v2 ∧ t 7 = iv i ∧ H1 = H0
def InvS2 (H0 : Heap) (p q : Nat) (a : Int) (v1 v2 : Value) (n : Nat) (k : Nat) (t : Tm) (H1 : Heap) : Prop :=
  ∃ i : Nat, i + k = n ∧ t 0 = ptr p ∧ t 3 = ptr q ∧ t 8 = iv a ∧ t 9 = v1 ∧ t 10 = v2 ∧ t 11 = iv i ∧ H1 = H0
def InvS3 (H0 : Heap) (p q W : Nat) (k : Nat) (t : Tm) (H1 : Heap) : Prop :=
  ∃ i : Nat, i + k = W + 2 ∧ t 0 = ptr p ∧ t 3 = ptr q ∧ t 8 = iv ((i : Int) - 1) ∧ On H0 H1
theorem same_T {H : Heap} (hw : H.WF) {p W R : Nat} {D : SD} (h : ST H p D) (pl : PL D W R) {y : Value} {l : List Vx} (hy : Rv H y l) (hyl : ∀ b, blkOf y = some b → b < H.next) (hl : l.length ≤ 100000) (hR : Rel D W R l) :
    T Try.prog 17 [ptr p, sV W R y] H (.bool true) H := by
  have hlen := hR.len
  have hR1 := pl.R1
  have hW1 := pl.W1
  obtain ⟨ay, cy, hye⟩ := hy.len
  obtain ⟨HA, hHA⟩ : ∃ HA, HA = H.new 40 3 [iv W, iv R, y] := ⟨_, rfl⟩
  have onA : On H HA := by rw [hHA]; exact (On.refl hw).new _ _ _
  have vA : Vr HA H.next 40 3 [iv W, iv R, y] := by rw [hHA]; exact Vr.mk' hw _ _ _
  have nA := onA.next
  have hyA := hy.on hw onA
  have stA := h.on hw onA
  have lT := slive_T stA pl
  have fT := sfree_T stA
  have e1 : R - D.fr.length = l.length := by omega
  rw [e1] at lT
  have d1 : HA.load ⟨H.next, 1, none⟩ = some (iv R) := vA.load 1
  have d2 : HA.load ⟨H.next, 2, none⟩ = some y := vA.load 2
  rw [hye] at d2
  have w0 : IntKind.i64.wrap ((R : Int) - (l.length : Int)) = (D.fr.length : Int) := by rw [w64 _ (by omega)]; omega
  obtain ⟨ss, aT, hsR, hsp, hsm⟩ := ages_T onA.wf stA pl
  have rowG := ag_row onA.wf ss
  obtain ⟨V1, hV1⟩ : ∃ V1, V1 = agV HA ss := ⟨_, rfl⟩
  obtain ⟨HB, hHB⟩ : ∃ HB, HB = agH HA ss := ⟨_, rfl⟩
  rw [← hV1, ← hHB] at aT rowG
  have onB := rowG.on
  have vB := vA.on onA.wf onB
  have ldA := vA.loadA (m := 3) rfl
  have ldB := vB.loadA (m := 3) rfl
  have hyB := hyA.on onA.wf onB
  obtain ⟨V2, HC, dT, X, rowX, hXp, hXm⟩ := agesD_T onB.wf hyB hl W R
  have hX : X = ss := int_ext hXp hsp (fun k => by
    rw [hXm, hsm, pl.mcq]
    constructor
    · rintro ⟨h1, q, hq, rfl⟩
      have hr := hR.rng q hq
      intro e
      have e0 : manyF (cont D) q.g W = 0 := by omega
      refine (manyF_pos.2 ⟨q.a.toNat, by omega, ?_⟩) e0
      rw [(hR.has q.a.toNat q.g q.v).2 ⟨q, hq, by omega, rfl, rfl⟩]; rfl
    · intro hne
      obtain ⟨a, ha, hs⟩ := manyF_pos.1 (fun e => hne (by rw [e]; rfl))
      obtain ⟨v, hv⟩ := Option.isSome_iff_exists.1 hs
      obtain ⟨q, hq, _, e2, _⟩ := (hR.has a k v).1 hv
      have hr := hR.rng q hq
      exact ⟨by omega, q, hq, e2⟩)
  subst hX
  have onC := rowX.on
  have rowG' := rowG.laterF onC
  have vC := vB.on onB.wf onC
  have ldC := vC.loadA (m := 3) rfl
  have stC := (stA.on onA.wf onB).on onB.wf onC
  have hyC := hyB.on onB.wf onC
  have on3 := (onA.trans onB).trans onC
  obtain ⟨a1, hv1⟩ := rowG'.own.len
  obtain ⟨a2, hv2⟩ := rowX.own.len
  have hn1 : notTup V1 = true := by rw [hv1]; rfl
  have hn2 : notTup V2 = true := by rw [hv2]; rfl
  refine T_seen hm light17 rfl ?_
  simp [L17, sV, ← hHA]
  refine goT_of lT ?_
  simp [d2]
  refine goT_of fT ?_
  simp [d1, d2, w0]
  refine goT_of aT ?_
  simp [ldA, ldB]
  refine goT_of dT ?_
  rw [hv1, hv2]
  simp [ldB, ldC]
  refine loop_at (InvS1 HC p H.next (.slice a1 X.length 0) (.slice a2 X.length 0) X.length) X.length ?_ ?_
  · exact ⟨0, by omega, by simp, by simp, by simp, by simp, by simp, rfl⟩
  rintro k t H1 ⟨i, hik, t0, t3, t5, t6, t7, rfl⟩
  cases k with
  | succ k =>
    have hi : i < X.length := by omega
    have hiI : (i : Int) < (X.length : Int) := by omega
    obtain ⟨b1, o1, c1, hb1, l1⟩ := row_get rowG' hi
    obtain ⟨b2, o2, c2', hb2, l2⟩ := row_get rowX hi
    have t5' := t5
    have t6' := t6
    rw [← hv1, hb1] at t5'
    rw [← hv2, hb2] at t6'
    have w1 : IntKind.i64.wrap ((i : Int) + 1) = ((i + 1 : Nat) : Int) := by rw [w64 _ (by omega)]; omega
    have mT := many_T stC pl X[i]
    have mD := manyD_T onC.wf hyC hl W R X[i]
    rw [many_len hR] at mD
    obtain ⟨n, hn⟩ : ∃ n, n = manyF (cont D) X[i] W := ⟨_, rfl⟩
    rw [← hn] at mT mD
    simp only [sV] at mD
    simp [L17_1, t0, t3, t5', t6', t7, hi, hiI, l1, l2]
    refine goT_of mT ?_
    simp [ldC, t0, t3, t5', t6', t7, hi, hiI, l1, l2]
    refine goT_of mD ?_
    simp [ldC, t7, w1]
    exact ⟨k, by omega, i + 1, by omega, by simp [t0], by simp [t3], by simp [t5], by simp [t6], by simp, rfl⟩
  | zero =>
    have ei : i = X.length := by omega
    simp [L17_1, t5, t7, ei]
    refine loop_at (InvS3 H1 p H.next W) (W + 2) ?_ ?_
    · exact ⟨0, by omega, by simp [t0], by simp [t3], by simp, On.refl onC.wf⟩
    rintro k2 t2 H2 ⟨j, hjk, u0, u3, u8, on4⟩
    have v4 := vC.on onC.wf on4
    have w4 : H2.load ⟨H.next, 0, none⟩ = some (iv W) := v4.load 0
    cases k2 with
    | zero =>
      have c1 : ¬ (j : Int) - 1 ≤ (W : Int) := by omega
      simp [L17_3, u3, u8, w4, c1, packV]
      exact (on3.trans on4).keep
    | succ k2 =>
      obtain ⟨aI, haI⟩ : ∃ aI : Int, aI = (j : Int) - 1 := ⟨_, rfl⟩
      rw [← haI] at u8
      have c1 : aI ≤ (W : Int) := by omega
      have w1 : IntKind.i64.wrap (aI + 1) = ((j + 1 : Nat) : Int) - 1 := by rw [w64 _ (by omega)]; omega
      have st4 := stC.on onC.wf on4
      have hy4 := hyC.on onC.wf on4
      have n3 := on3.next
      have n4 := on4.next
      have ld4 := v4.loadA (m := 3) rfl
      by_cases hin : 0 ≤ aI ∧ aI < W
      · obtain ⟨a, haa⟩ : ∃ a : Nat, aI = a := ⟨aI.toNat, by omega⟩
        rw [haa] at u8 c1 w1
        have ha : a < W := by omega
        obtain ⟨x1, H3, cT, row1⟩ := chain_T on4.wf st4 pl ha
        have on5 := row1.on
        have v5 := v4.on on4.wf on5
        have ld5 := v5.loadA (m := 3) rfl
        have hy5 := hy4.on on4.wf on5
        obtain ⟨x2, H4, cD, Z, row2, hz1, hz2, hz3⟩ := chainD_T on5.wf hy5 (fun b hb => by have := hyl b hb; have := on5.next; omega) hl W R a
        have on6 := row2.on
        have ld6 := (v5.on on5.wf on6).loadA (m := 3) rfl
        have ce := chain_eq hR pl ha hz1 hz2 hz3
        have row1' := row1.laterF on6
        rw [ce] at row1 row1'
        simp only [List.length_map] at row1 row1'
        have row1'' : Row H2 H4 33 2 (Z.map fun x => (x.g, x.v)).length (c2 (Z.map fun x => (x.g, x.v))) x1 := by simpa using row1'
        have rvz := row2.rv
        have hZl : Z.length ≤ 1000 := by
          have : (told D a).length = Z.length := by rw [ce, List.length_map]
          rw [← this]; unfold told
          have hc' : a < D.ch.length := by rw [pl.hch]; omega
          have e : D.ch.getD a [] = D.ch[a] := by simp [List.getD, hc']
          rw [e, List.length_map]
          have := pl.long a hc'
          omega
        obtain ⟨b1, hx1⟩ := row1.own.len
        obtain ⟨b2, hx2⟩ := row2.own.len
        simp only [sV] at cD
        simp [L17_3, u0, u3, u8, w4, c1]
        refine goT_of cT ?_
        simp [ld4, ld5, u3, u8]
        refine goT_of cD ?_
        rw [hx1, hx2]
        simp [ld5, ld6]
        refine loop_at (InvS2 H4 p H.next a (.slice b1 Z.length 0) (.slice b2 Z.length 0) Z.length) Z.length ?_ ?_
        · exact ⟨0, by omega, by simp [u0], by simp [u3], by simp [u8], by simp, by simp, by simp, rfl⟩
        rintro k5 t5 H5 ⟨i5, hk5, z0, z3, z8, z9, z10, z11, rfl⟩
        cases k5 with
        | zero =>
          have e5 : i5 = Z.length := by omega
          simp [L17_2, z9, z11, e5, z8, w1]
          exact ⟨k2, by omega, j + 1, by omega, by simp [z0], by simp [z3], by simp, (on4.trans on5).trans on6⟩
        | succ k5 =>
          have hi5 : i5 < Z.length := by omega
          have hi5I : (i5 : Int) < (Z.length : Int) := by omega
          have w5 : IntKind.i64.wrap ((i5 : Int) + 1) = ((i5 + 1 : Nat) : Int) := by rw [w64 _ (by omega)]; omega
          obtain ⟨bb1, oo1, cc1, hbb1, g1, g2⟩ := rw2_getF row1'' (i := i5) (by simpa using hi5)
          obtain ⟨bb2, oo2, cc2, hbb2, _, _, g3, g4⟩ := rvz.get hi5
          simp only [List.getElem_map, List.length_map] at hbb1 g1 g2
          have z9' := z9
          have z10' := z10
          rw [← hx1, hbb1] at z9'
          rw [← hx2, hbb2] at z10'
          simp [L17_2, z9', z10', z11, hi5, hi5I, g1, g2, g3, g4, w5]
          exact ⟨k5, by omega, i5 + 1, by omega, by simp [z0], by simp [z3], by simp [z8], by simp [z9], by simp [z10], by simp, rfl⟩
      · have hin' : inV D aI = false := by
          rw [Bool.eq_false_iff]
          intro hx
          apply hin
          simpa only [inV, Bool.and_eq_true, decide_eq_true_eq, pl.hW] using hx
        have cT := chain_out st4 hin'
        obtain ⟨x2, H4, cD, Z, row2, hz1, hz2, hz3⟩ := chainD_T on4.wf hy4 (fun b hb => by have := hyl b hb; omega) hl W R aI
        have hZ : Z = [] := by
          cases Z with
          | nil => rfl
          | cons x Z =>
            have h1 := hz2 x (by simp)
            have h2 := hR.rng x h1.1
            exact absurd ⟨by omega, by omega⟩ hin
        subst hZ
        have on6 := row2.on
        have ld6 := (v4.on on4.wf on6).loadA (m := 3) rfl
        obtain ⟨b2, hx2⟩ := row2.own.len
        simp only [sV] at cD
        simp [L17_3, u0, u3, u8, w4, c1]
        refine goT_of cT ?_
        simp [ld4, u3, u8]
        refine goT_of cD ?_
        rw [hx2]
        simp [ld4, ld6]
        refine loop_at (InvS2 H4 p H.next aI (.slice none 0 0) (.slice b2 0 0) 0) 0 ?_ ?_
        · exact ⟨0, by omega, by simp [u0], by simp [u3], by simp [u8], by simp, by simp, by simp, rfl⟩
        rintro k5 t5 H5 ⟨i5, hk5, z0, z3, z8, z9, z10, z11, rfl⟩
        have e5 : i5 = 0 := by omega
        simp [L17_2, z9, z11, e5, z8, w1]
        exact ⟨k2, by omega, j + 1, by omega, by simp [z0], by simp [z3], by simp, on4.trans on6⟩
end Go.Proofs.Ythclcdboialfnaa
