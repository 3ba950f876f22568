/-
  Chapter 21: what one age puts and drops changes nothing of what the others have: the first loop. Chapter 21: the law of stores apart.
-/
import Derived.Test.YthclcdboialfnaaSeatW
namespace Go.Proofs.Ythclcdboialfnaa
open Go.Ot Go.RowKit
set_option linter.unusedSimpArgs false
set_option linter.unusedVariables false
theorem stepC_other {W : Nat} {f : Nat → Int → Option Int} {o : Cl} {b : Nat} {g : Int} (h : g ≠ o.g) : stepC W f o b g = f b g := by
  unfold stepC
  split
  · unfold putF; rw [if_neg (fun x => h x.2.2.2.2)]
  · split
    · unfold dropF; rw [if_neg (fun x => h x.2.2.2)]
    · split
      · show (if g = o.g then none else f b g) = _
        rw [if_neg h]
      · rfl
theorem stepC_congr {W : Nat} {f f' : Nat → Int → Option Int} {o : Cl} {b : Nat} {g : Int} (h : f b g = f' b g) : stepC W f o b g = stepC W f' o b g := by
  unfold stepC
  split
  · unfold putF; rw [h]
  · split
    · unfold dropF; rw [h]
    · split
      · show (if g = o.g then none else f b g) = (if g = o.g then none else f' b g)
        rw [h]
      · exact h
theorem refNew_T {H : Heap} (hw : H.WF) (W R : Int) (hW : 1 ≤ W ∧ W ≤ 64) (hR : 1 ≤ R ∧ R ≤ 512) : T Try.prog 13 [iv W, iv R] H (.tuple #[sV W R (.slice none 0 0), iv 0]) H := by
  have h1 : ¬ W < 1 := by omega
  have h2 : ¬ 64 < W := by omega
  have h3 : ¬ R < 1 := by omega
  have h4 : ¬ 512 < R := by omega
  obtain ⟨HA, hHA⟩ : ∃ HA, HA = H.new 40 3 [iv 0, iv 0, .slice none 0 0] := ⟨_, rfl⟩
  have onA : On H HA := by rw [hHA]; exact (On.refl hw).new _ _ _
  have vA : Vr HA H.next 40 3 [iv 0, iv 0, .slice none 0 0] := by rw [hHA]; exact Vr.mk' hw _ _ _
  have sf := vA.storeA (m := 3) (by decide) [iv W, iv R, .slice none 0 0] rfl rfl
  have ld := (vA.put [iv W, iv R, .slice none 0 0]).loadA (m := 3) rfl
  have onB : On H (HA.put H.next [iv W, iv R, .slice none 0 0]) := onA.put (Nat.le_refl _) _
  obtain ⟨HB, hHB⟩ : ∃ HB, HB = HA.put H.next [iv W, iv R, .slice none 0 0] := ⟨_, rfl⟩
  rw [← hHB] at sf ld onB
  refine T_seen hm light13 rfl ?_
  simp [L13, h1, h2, h3, h4, ← hHA, sf, ld, packV, sV]
  exact onB.keep
/-- Two stores beside one another. -/
structure Two (H H1 : Heap) (p p2 q : Nat) (D E : SD) : Prop where
  on : On H H1
  s1 : ST H1 p D
  l1 : PL D 64 512
  s2 : ST H1 p2 E
  l2 : PL E 64 512
  vq : Vr H1 q 40 3 [iv 64, iv 512, .slice none 0 0]
  m1 : ∀ b, Mine p D b → H.next ≤ b ∧ ¬ Mine p2 E b ∧ b ≠ q
  m2 : ∀ b, Mine p2 E b → H.next ≤ b ∧ b ≠ q
  r1 : ∃ l, Rel D 64 512 l
  r2 : ∃ l, Rel E 64 512 l
theorem Two.one {H H1 : Heap} {p p2 q : Nat} {D E : SD} (T : Two H H1 p p2 q D E) (o : Cl) (hf : 1 ≤ D.fr.length) :
    ∃ v H2 D', Go.Ot.T Try.prog 14 [ptr p, sV 64 512 (.slice none 0 0), .agg (orow o).toArray] H1 v H2 ∧ Two H H2 p p2 q D' E ∧ cont D' = stepC 64 (cont D) o ∧ D.fr.length ≤ D'.fr.length + 1 := by
  have hw := T.on.wf
  obtain ⟨v, H2, oT, y', b, D', l', rfl, st, pl, _, _, _, fm, hst, _, hx⟩ := one_T hw T.s1 T.l1 (y := .slice none 0 0) (l := []) (.inl ⟨rfl, rfl⟩) (fun b hb => by cases hb) (by simp) o
  have hd : ∀ b, Mine p2 E b → b < H1.next ∧ ¬ Mine p D b := fun b hb => ⟨T.s2.lt hw hb, fun h1 => (T.m1 b h1).2.1 hb⟩
  have hq1 : q < H1.next := hw.lt T.vq.bq
  have hq2 : ¬ Mine p D q := fun h1 => (T.m1 q h1).2.2 rfl
  obtain ⟨h1, h2⟩ := fm.old (n := H.next) T.on.next (fun b hb => (T.m1 b hb).1)
  refine ⟨_, H2, D', oT, ⟨⟨fm.wf, fm.base.trans T.on.base, Nat.le_trans T.on.next fm.next, fun b hb => by rw [h1 b hb, T.on.keep b hb]⟩, st, pl, T.s2.keep (B_eq fm.base) (fun b hb => fm.keep b (hd b hb).1 (hd b hb).2), T.l2, T.vq.keep fm.base (fm.keep q hq1 hq2), fun b hb => ⟨h2 b hb, ?_, ?_⟩, T.m2, ?_, T.r2⟩, (hst hf).1, (hst hf).2⟩
  · intro hm'
    rcases fm.new b hb with h3 | h3
    · exact (hd b hm').2 h3
    · have := (hd b hm').1; omega
  · intro e
    subst e
    rcases fm.new b hb with h3 | h3
    · exact hq2 h3
    · omega
  · obtain ⟨l, hl⟩ := T.r1
    exact hx l hl
theorem Two.swap {H H1 : Heap} {p p2 q : Nat} {D E : SD} (T : Two H H1 p p2 q D E) : Two H H1 p2 p q E D :=
  ⟨T.on, T.s2, T.l2, T.s1, T.l1, T.vq, fun b hb => ⟨(T.m2 b hb).1, fun h1 => (T.m1 b h1).2.1 hb, (T.m2 b hb).2⟩, fun b hb => ⟨(T.m1 b hb).1, (T.m1 b hb).2.2⟩, T.r2, T.r1⟩
def InvA (H : Heap) (x : Value) (l : List Cl) (age : Int) (p p2 q : Nat) (k : Nat) (t : Tm) (H1 : Heap) : Prop :=
  ∃ i D E, i + k = l.length ∧ t 0 = x ∧ t 1 = iv age ∧ t 5 = ptr p ∧ t 7 = ptr p2 ∧ t 9 = ptr q ∧ t 11 = iv (i : Nat) ∧ Two H H1 p p2 q D E ∧ 512 ≤ D.fr.length + i ∧ 512 ≤ E.fr.length + i ∧ ∀ b g, cont E b g = if g = age then none else cont D b g
theorem roundA {H : Heap} (hw : H.WF) {x : Value} {l : List Cl} (hx : Rc H x l) (hl : l.length ≤ 120) {age : Int} {p p2 q : Nat} {Q : Post} (hQ : ∀ t H1, InvA H x l age p p2 q 0 t H1 → Q .normal t (rdy H1))
    (k : Nat) (t : Tm) (H1 : Heap) (h : InvA H x l age p p2 q k t H1) : wpN Try.prog L4_1 (thenA (fun t' H' => ∃ m, m < k ∧ InvA H x l age p p2 q m t' H') (blockA 0 Q)) t (rdy H1) := by
  obtain ⟨i, D, E, hik, t0, t1, t5, t7, t9, t11, T, fl1, fl2, hc⟩ := h
  obtain ⟨ax, cx, hxl⟩ := hx.len
  cases k with
  | zero =>
    have e0 : i = l.length := by omega
    have t0' := t0
    rw [hxl] at t0'
    simp [L4_1, t0', t11, e0]
    exact hQ _ _ ⟨i, D, E, by omega, by simp [t0], by simp [t1], by simp [t5], by simp [t7], by simp [t9], by simp [t11, e0], T, fl1, fl2, hc⟩
  | succ k =>
    have hi : i < l.length := by omega
    have hiI : (i : Int) < (l.length : Int) := by omega
    obtain ⟨b, off, c, hxb, ld⟩ := (hx.on hw T.on).get hi
    obtain ⟨o, ho⟩ : ∃ o, o = l[i] := ⟨_, rfl⟩
    rw [← ho] at ld
    have t0' := t0.trans hxb
    have ldq := T.vq.loadA (m := 3) rfl
    obtain ⟨v, H2, D', oT, T2, hc2, hf2⟩ := T.one o (by omega)
    have ld2 : H2.load ⟨b, off + i * 4 + 2, none⟩ = some (iv o.g) := by
      have hx2 := hx.on hw T2.on
      obtain ⟨b2, off2, c2', hxb2, _, h3⟩ := Rws.at hx2 (i := i) (by simpa using hi)
      simp only [List.length_map] at hxb2
      rw [hxb] at hxb2
      simp only [Value.slice.injEq, Option.some.injEq, Addr.mk.injEq] at hxb2
      obtain ⟨⟨rfl, rfl, _⟩, _, _⟩ := hxb2
      have := h3.2 2 (by simp [orow])
      simp only [List.getElem_map, ← ho] at this
      exact this
    have w1 : IntKind.i64.wrap ((i : Int) + 1) = ((i + 1 : Nat) : Int) := by rw [w64 _ (by omega)]; omega
    simp only [sV, orow] at oT ld
    by_cases ca : o.g = age
    · have e1 : (o.g != age) = false := by simp [ca]
      simp [L4_1, t0', t5, t9, t11, hi, hiI, ldq, ld]
      refine goT_of oT ?_
      simp [t0', t1, t11, hi, hiI, ld2, e1, w1]
      refine ⟨k, by omega, i + 1, D', E, by omega, by simp [t0, ← hxb], by simp [t1], by simp [t5], by simp [t7], by simp [t9], by simp, T2, by omega, by omega, fun b g => ?_⟩
      rw [hc, hc2]
      by_cases hg : g = age
      · rw [if_pos hg, if_pos hg]
      · rw [if_neg hg, if_neg hg, stepC_other (by omega)]
    · have e1 : (o.g != age) = true := by simp [ca]
      obtain ⟨v3, H3, E', oT3, T3, hc3, hf3⟩ := T2.swap.one o (by omega)
      have ldq2 := T2.vq.loadA (m := 3) rfl
      have ld3 : H2.loadN ⟨b, off + i * 4, none⟩ 0 4 = some (orow o) := by
        obtain ⟨b2, off2, c2', hxb2, h3⟩ := (hx.on hw T2.on).get hi
        rw [hxb] at hxb2
        simp only [Value.slice.injEq, Option.some.injEq, Addr.mk.injEq] at hxb2
        obtain ⟨⟨rfl, rfl, _⟩, _, _⟩ := hxb2
        rw [← ho] at h3
        exact h3
      simp only [sV, orow] at oT3 ld3
      simp [L4_1, t0', t5, t9, t11, hi, hiI, ldq, ld]
      refine goT_of oT ?_
      simp [t0', t1, t7, t9, t11, hi, hiI, ld2, e1, w1, ldq2, ld3]
      refine goT_of oT3 ?_
      simp [t11, w1]
      refine ⟨k, by omega, i + 1, D', E', by omega, by simp [t0, ← hxb], by simp [t1], by simp [t5], by simp [t7], by simp [t9], by simp, T3.swap, by omega, by omega, fun b g => ?_⟩
      rw [hc3, hc2]
      by_cases hg : g = age
      · rw [if_pos hg, stepC_other (by omega), hc, if_pos hg]
      · rw [if_neg hg]
        exact stepC_congr (by rw [hc, if_neg hg])
end Go.Proofs.Ythclcdboialfnaa
namespace Go.Proofs.Ythclcdboialfnaa
open Go.Ot Go.ChangeShapes Go.WideShapes Go.ChangeAt Go.RowKit
set_option linter.unusedSimpArgs false
set_option linter.unusedVariables false
def InvB2 (H : Heap) (p p2 : Nat) (y z : Value) (n a : Nat) (k : Nat) (t : Tm) (H1 : Heap) : Prop :=
  ∃ i : Nat, i + k = n ∧ t 5 = ptr p ∧ t 7 = ptr p2 ∧ t 12 = iv a ∧ t 13 = y ∧ t 14 = z ∧ t 15 = iv i ∧ H1 = H
def InvB3 (H : Heap) (p p2 : Nat) (k : Nat) (t : Tm) (H1 : Heap) : Prop :=
  ∃ i : Nat, i + k = 64 ∧ t 5 = ptr p ∧ t 7 = ptr p2 ∧ t 12 = iv i ∧ On H H1
theorem Row.later {H H1 H2 : Heap} {ety sz n : Nat} {cells : List Value} {y : Value} (r : Row H H1 ety sz n cells y) (o : On H1 H2) : Row H H2 ety sz n cells y := ⟨Own.on r.on.wf r.own o, r.on.trans o, r.new⟩
theorem rw2_get {H : Heap} {H0 : Heap} {l : List (Int × Int)} {y : Value} (row : Row H0 H 33 2 l.length (c2 l) y) {i : Nat} (hi : i < l.length) : ∃ b off c, y = .slice (some ⟨b, off, none⟩) l.length c ∧ H.loadN ⟨b, off + i * 2, none⟩ 0 2 = some [iv l[i].1, iv l[i].2] := by
  have hs : ∀ r ∈ l.map (fun q => [iv q.1, iv q.2]), r.length = 2 := by
    intro r hr; obtain ⟨q, _, rfl⟩ := List.mem_map.1 hr; rfl
  have ow : Own H 33 2 (l.map fun q => [iv q.1, iv q.2]).length (l.map fun q => [iv q.1, iv q.2]).flatten y := by simpa [c2] using row.own
  obtain ⟨b, off, c, hx, h1, h2, h3⟩ := Rws.at (ow.rws hs) (i := i) (by simpa using hi)
  simp only [List.getElem_map] at h2
  exact ⟨b, off, c, by simpa using hx, h2⟩
theorem told_eq {D E : SD} {W R : Nat} (pl : PL D W R) (ql : PL E W R) {a : Nat} (ha : a < W) (hc : ∀ g, cont D a g = cont E a g) : told D a = told E a :=
  rise_ext (told_rise pl ha) (told_rise ql ha) (fun x => by
    obtain ⟨g, v⟩ := x
    rw [told_iff pl ha, told_iff ql ha, hc])
theorem apart_T {H : Heap} (hw : H.WF) {x : Value} {l : List Cl} (hx : Rc H x l) (age : Int) : T Try.prog 4 [x, iv age] H (.bool true) H := by
  refine T_of_N (N_by hm light4 ?_)
  obtain ⟨ax, cx, hxl⟩ := hx.len
  have nN := new_N hw (W := 64) (R := 512) (by omega) (by omega)
  simp [L4]
  refine goN_of nN ?_
  rintro o H1 ⟨v, rfl, p, D, rfl, st, pl, fl, hc, hmn, hk⟩ hw1 hb1 hn1
  have on1 : On H H1 := ⟨hw1, hb1, hn1, hk⟩
  simp
  refine goN_of (new_N hw1 (W := 64) (R := 512) (by omega) (by omega)) ?_
  rintro o H2 ⟨v, rfl, p2, E, rfl, st2, pl2, fl2, hc2, hmn2, hk2⟩ hw2 hb2 hn2
  have on2 : On H1 H2 := ⟨hw2, hb2, hn2, hk2⟩
  by_cases h120 : 120 < l.length
  · have h120' : (120 : Int) < (l.length : Int) := by omega
    rw [hxl]
    simp [h120, h120']
    exact on1.trans on2
  have h120' : ¬ (120 : Int) < (l.length : Int) := by omega
  have hnew := refNew_T hw2 64 512 (by omega) (by omega)
  have stq := new_storeA hw2 40 3 [iv 0, iv 0, .slice none 0 0] [iv 64, iv 512, .slice none 0 0] rfl rfl (by decide)
  obtain ⟨H3, hH3⟩ : ∃ H3, H3 = H2.new 40 3 [iv 64, iv 512, .slice none 0 0] := ⟨_, rfl⟩
  have on3 : On H2 H3 := by rw [hH3]; exact (On.refl hw2).new _ _ _
  have vq : Vr H3 H2.next 40 3 [iv 64, iv 512, .slice none 0 0] := by rw [hH3]; exact Vr.mk' hw2 _ _ _
  rw [← hH3] at stq
  have TW : Two H H3 p p2 H2.next D E := by
    refine ⟨(on1.trans on2).trans on3, (st.on hw1 on2).on hw2 on3, pl, st2.on hw2 on3, pl2, vq, fun b hb => ⟨hmn b hb, fun h1 => ?_, ?_⟩, fun b hb => ⟨Nat.le_trans hn1 (hmn2 b hb), ?_⟩, ⟨[], ?_⟩, ⟨[], ?_⟩⟩
    · have := st.lt hw1 hb; have := hmn2 b h1; omega
    · have := st.lt hw1 hb; omega
    · have := st2.lt hw2 hb; omega
    · exact ⟨by simp, by simp, fun a g v => by rw [hc]; simp, by simp; exact fl⟩
    · exact ⟨by simp, by simp, fun a g v => by rw [hc2]; simp, by simp; exact fl2⟩
  rw [hxl]
  simp [h120, h120']
  refine goN_T hnew ?_
  simp [sV, stq]
  rw [← hxl]
  refine loopN_at (InvA H x l age p p2 H2.next) l.length ?_ ?_
  · exact ⟨0, D, E, by omega, by simp [hxl], by simp, by simp, by simp, by simp, by simp, TW, by omega, by omega, fun b g => by rw [hc, hc2]; split <;> rfl⟩
  refine roundA hw hx (by omega) ?_
  rintro t H4 ⟨i, D4, E4, hik, t0, t1, t5, t7, t9, t11, T4, f1, f2, hc4⟩
  obtain ⟨v5, H5, dT, rfl, D5, st5, pl5, fm5, fl5, hc5⟩ := dropall_T T4.on.wf T4.s1 T4.l1 age
  have hd : ∀ b, Mine p2 E4 b → b < H4.next ∧ ¬ Mine p D4 b := fun b hb => ⟨T4.s2.lt T4.on.wf hb, fun h1 => (T4.m1 b h1).2.1 hb⟩
  obtain ⟨k1, k2⟩ := fm5.old (n := H.next) T4.on.next (fun b hb => (T4.m1 b hb).1)
  have on5 : On H H5 := ⟨fm5.wf, fm5.base.trans T4.on.base, Nat.le_trans T4.on.next fm5.next, fun b hb => by rw [k1 b hb, T4.on.keep b hb]⟩
  have stE := T4.s2.keep (B_eq fm5.base) (fun b hb => fm5.keep b (hd b hb).1 (hd b hb).2)
  have ceq : ∀ a g, cont D5 a g = cont E4 a g := fun a g => by rw [hc5, hc4]
  have feq : D5.fr.length = E4.fr.length := by
    obtain ⟨l1, r1⟩ := T4.r1
    obtain ⟨l2, r2⟩ := T4.r2
    exact rel_free (rel_dropall r1 fl5 hc5) r2 ceq
  have lv1 := slive_T st5 pl5
  have lv2 := slive_T stE T4.l2
  rw [feq] at lv1
  simp [t5, t1]
  refine goN_T dT ?_
  simp [t5]
  refine goN_T lv1 ?_
  simp [t7]
  refine goN_T lv2 ?_
  simp
  refine loopN_at (InvB3 H5 p p2) 64 ?_ ?_
  · exact ⟨0, rfl, by simp [t5], by simp [t7], by simp, On.refl fm5.wf⟩
  rintro k t' H6 ⟨a, hak, t5, t7, t12, on6⟩
  cases k with
  | zero =>
    have ea : a = 64 := by omega
    subst ea
    have ex := example_T on6.wf
    simp [L4_3, t12]
    refine goN_T ex ?_
    simp
    exact on5.trans on6
  | succ k =>
    have ha : a < 64 := by omega
    have haI : (a : Int) < 64 := by omega
    obtain ⟨y, H7, cT1, row1⟩ := chain_T on6.wf (st5.on fm5.wf on6) pl5 ha
    have on7 := row1.on
    obtain ⟨z, H8, cT2, row2⟩ := chain_T on7.wf ((stE.on fm5.wf on6).on on6.wf on7) T4.l2 ha
    have on8 := row2.on
    have row1' := row1.later on8
    have te := told_eq pl5 T4.l2 ha (fun g => ceq a g)
    obtain ⟨L, hL⟩ : ∃ L, L = told E4 a := ⟨_, rfl⟩
    rw [te, ← hL] at row1 row1'
    rw [← hL] at row2
    have hLl : L.length ≤ 512 := by
      rw [hL]; unfold told
      have hc' : a < E4.ch.length := by rw [T4.l2.hch]; omega
      have : E4.ch.getD a [] = E4.ch[a] := by simp [List.getD, hc']
      rw [this, List.length_map]
      exact T4.l2.long a hc'
    obtain ⟨ay, hye⟩ := row1.own.len
    obtain ⟨az, hze⟩ := row2.own.len
    have w1 : IntKind.i64.wrap ((a : Int) + 1) = ((a + 1 : Nat) : Int) := by rw [w64 _ (by omega)]; omega
    have hny : notTup y = true := by rw [hye]; rfl
    have hnz : notTup z = true := by rw [hze]; rfl
    simp [L4_3, t5, t7, t12, haI]
    refine goN_T cT1 ?_
    simp [t7, t12]
    refine goN_T cT2 ?_
    rw [hye, hze]
    simp
    refine loopN_at (InvB2 H8 p p2 (.slice ay L.length 0) (.slice az L.length 0) L.length a) L.length ?_ ?_
    · exact ⟨0, by omega, by simp [t5], by simp [t7], by simp [t12], by simp, by simp, by simp, rfl⟩
    rintro j t2 H9 ⟨i2, hij, u5, u7, u12, u13, u14, u15, rfl⟩
    cases j with
    | zero =>
      have ei : i2 = L.length := by omega
      simp [L4_2, u13, u15, ei, u12, w1]
      exact ⟨k, by omega, a + 1, by omega, by simp [u5], by simp [u7], by simp, (on6.trans on7).trans on8⟩
    | succ j =>
      have hi2 : i2 < L.length := by omega
      have hi2I : (i2 : Int) < (L.length : Int) := by omega
      have w2 : IntKind.i64.wrap ((i2 : Int) + 1) = ((i2 + 1 : Nat) : Int) := by rw [w64 _ (by omega)]; omega
      obtain ⟨by1, oy1, cy1, ey, ldy⟩ := rw2_get row1' hi2
      obtain ⟨bz1, oz1, cz1, ez, ldz⟩ := rw2_get row2 hi2
      have u13' := u13
      have u14' := u14
      rw [← hye, ey] at u13
      rw [← hze, ez] at u14
      simp [L4_2, u13, u14, u15, hi2, hi2I, ldy, ldz]
      refine goE_of (b := true) rfl rfl (eqV _ _) ?_
      simp [u15, w2]
      exact ⟨j, by omega, i2 + 1, by omega, by simp [u5], by simp [u7], by simp [u12], by simp [u13'], by simp [u14'], by simp, rfl⟩
set_option maxRecDepth 100000 in
theorem apart_U {H : Heap} (hw : H.WF) {x : Value} (h0 : Rd Try.prog H 4 22 [x]) {a : Int} (_ : -9223372036854775808 ≤ a ∧ a ≤ 9223372036854775807) : ∃ v H', T Try.prog 4 [x, iv a] H v H' ∧ v = .bool true := by
  obtain ⟨l, hx⟩ := rd_calls h0
  exact ⟨_, _, apart_T hw hx a, rfl⟩
end Go.Proofs.Ythclcdboialfnaa
