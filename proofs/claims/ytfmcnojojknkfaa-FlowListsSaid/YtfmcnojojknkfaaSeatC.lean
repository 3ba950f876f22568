/-
  Chapter 29: lists of tasks: what stands; rows that are the same; the one ahead, by both; numbers behind a word, by both.
-/
import Derived.Test.YtfmcnojojknkfaaSeatBB
import Derived.Test.YtfmcnojojknkfaaSeatPA
namespace Go.Proofs.Ytfmcnojojknkfaa
open Go.Ot Go.RowKit Go.Fl
set_option linter.unusedSimpArgs false
set_option linter.unusedVariables false
/-- A contract of which some end is told. -/
def TE (P : Program) (f : FuncId) (args : List Value) (H : Heap) (Q : Out → Heap → Prop) : Prop := ∃ v H', T P f args H v H' ∧ Q (.ret v) H'
theorem TE_by {P : Program} (hm : P.follows .mixedOrders = true) {f : FuncId} {n : Nat} {lc : LCode} {lr : List LRes} {args : List Value} (hL : Light P f args.length n lc lr) {H : Heap} {Q : Out → Heap → Prop}
    (h : wpA P lc (EndA (fun v H' => Q (.ret v) H') lr) (initT args) (rdy H)) : TE P f args H Q := T_by hm hL h
theorem goA_of {P : Program} {f : FuncId} {args : List Value} {H : Heap} {Q : Out → Heap → Prop} {K : Value → Heap → Prop} (hw : H.WF) (h : TE P f args H Q) (hk : ∀ o H', Q o H' → H'.WF → H'.base = H.base → H.next ≤ H'.next → outK (fun v => K v (rdy H')) (fun _ => False) o) : goT P f args H K := by
  obtain ⟨v, H', t, q⟩ := h
  exact goT_of t (hk (.ret v) H' q (t.2.2.1 hw) t.1 t.2.1)
theorem Ints.on {H H1 : Heap} (hw : H.WF) {x : Value} {l : List Int} (h : Ints H .i64 x l) (o : On H H1) : Ints H1 .i64 x l := h.keep hw o.base o.keep
/-- The cells of a task. -/
def TkR (H : Heap) (t : Tk) (r : List Value) : Prop := ∃ x y z, r = [iv t.age, x, y, z, iv t.deep] ∧ Ints H .i64 x t.reads ∧ Ints H .i64 y t.writes ∧ Ints H .i64 z t.from'
def TkL (H : Heap) (x : Value) (L : List Tk) : Prop := ∃ V : List (List Value), Rws H 5 x V ∧ V.length = L.length ∧ ∀ i (h : i < L.length) (h' : i < V.length), TkR H L[i] V[i]
theorem TkL.on {H H1 : Heap} (hw : H.WF) {x : Value} {L : List Tk} (h : TkL H x L) (o : On H H1) : TkL H1 x L := by
  obtain ⟨V, h1, h2, h3⟩ := h
  refine ⟨V, h1.keep hw o.base o.keep, h2, fun i hi hi' => ?_⟩
  obtain ⟨a, b, c, e, p, q, r⟩ := h3 i hi hi'
  exact ⟨a, b, c, e, Ints.on hw p o, Ints.on hw q o, Ints.on hw r o⟩
theorem TkL.len {H : Heap} {x : Value} {L : List Tk} (h : TkL H x L) : ∃ a c, x = .slice a L.length c := by
  obtain ⟨V, h1, h2, _⟩ := h
  obtain ⟨a, c, e⟩ := h1.len
  exact ⟨a, c, by rw [e, h2]⟩
/-- A task of a list. -/
structure TkA (H : Heap) (x : Value) (L : List Tk) (i : Nat) (t : Tk) (b off : Nat) (c : Nat) (u v w : Value) : Prop where
  hx : x = .slice (some ⟨b, off, none⟩) L.length c
  all : H.loadN ⟨b, off + i * 5, none⟩ 0 5 = some [iv t.age, u, v, w, iv t.deep]
  c0 : H.load ⟨b, off + i * 5, none⟩ = some (iv t.age)
  c1 : H.load ⟨b, off + i * 5 + 1, none⟩ = some u
  c2 : H.load ⟨b, off + i * 5 + 2, none⟩ = some v
  c3 : H.load ⟨b, off + i * 5 + 3, none⟩ = some w
  c4 : H.load ⟨b, off + i * 5 + 4, none⟩ = some (iv t.deep)
  iu : Ints H .i64 u t.reads
  iw : Ints H .i64 v t.writes
  iz : Ints H .i64 w t.from'
theorem TkL.at {H : Heap} {x : Value} {L : List Tk} (h : TkL H x L) {i : Nat} (hi : i < L.length) : ∃ b off c u v w, TkA H x L i L[i] b off c u v w := by
  obtain ⟨V, h1, h2, h3⟩ := h
  obtain ⟨u, v, w, e, p, q, r⟩ := h3 i hi (by omega)
  obtain ⟨b, off, c, hx, g1, g2, g3⟩ := h1.at (i := i) (by omega)
  rw [e] at g2
  have g (j : Nat) (hj : j < 5) : H.load ⟨b, off + i * 5 + j, none⟩ = [iv L[i].age, u, v, w, iv L[i].deep][j]? := by
    have hj' : j < V[i].length := by rw [e]; exact hj
    rw [g3 j hj', ← List.getElem?_eq_getElem, e]
  exact ⟨b, off, c, u, v, w, by rw [hx, h2], g2, g 0 (by decide), g 1 (by decide), g 2 (by decide), g 3 (by decide), g 4 (by decide), p, q, r⟩
theorem TkA.same {H : Heap} {x : Value} {L : List Tk} {i j : Nat} {t t' : Tk} {b off c b' off' c' : Nat} {u v w u' v' w' : Value} (h : TkA H x L i t b off c u v w) (h' : TkA H x L j t' b' off' c' u' v' w') : b' = b ∧ off' = off ∧ c' = c := by
  have := h.hx.symm.trans h'.hx
  simp at this
  exact ⟨this.1.1.symm, this.1.2.symm, this.2.symm⟩
theorem TkL.all {H : Heap} {x : Value} {L : List Tk} (h : TkL H x L) (h0 : 0 < L.length) : ∃ b off c, x = .slice (some ⟨b, off, none⟩) L.length c ∧ ∀ i (hi : i < L.length), ∃ u v w, TkA H x L i L[i] b off c u v w := by
  obtain ⟨b, off, c, u, v, w, A⟩ := h.at h0
  refine ⟨b, off, c, A.hx, fun i hi => ?_⟩
  obtain ⟨b', off', c', u', v', w', A'⟩ := h.at hi
  obtain ⟨rfl, rfl, rfl⟩ := A.same A'
  exact ⟨u', v', w', A'⟩
theorem TkA.on {H H1 : Heap} (hw : H.WF) (o : On H H1) {x : Value} {L : List Tk} {i : Nat} {t : Tk} {b off c : Nat} {u v w : Value} (h : TkA H x L i t b off c u v w) : TkA H1 x L i t b off c u v w := by
  have ld {bb oo : Nat} {y : Value} (g : H.load ⟨bb, oo, none⟩ = some y) := load_keepN hw o.base o.keep g
  refine ⟨h.hx, ?_, ld h.c0, ld h.c1, ld h.c2, ld h.c3, ld h.c4, Ints.on hw h.iu o, Ints.on hw h.iw o, Ints.on hw h.iz o⟩
  have g (j : Nat) (hj : j < 5) : H1.load ⟨b, off + i * 5 + j, none⟩ = [iv t.age, u, v, w, iv t.deep][j]? := by
    match j, hj with
    | 0, _ => exact ld h.c0
    | 1, _ => exact ld h.c1
    | 2, _ => exact ld h.c2
    | 3, _ => exact ld h.c3
    | 4, _ => exact ld h.c4
  exact loadN_cells (l := [iv t.age, u, v, w, iv t.deep]) (i := 0) (fun j hj => by rw [Nat.add_zero, g j hj, List.getElem?_eq_getElem])
/-- A variable that holds a task. -/
theorem newTk {H1 : Heap} (hw : H1.WF) (R : List Value) (h5 : R.length = 5) : ∃ HB, sStore (H1.new 26 5 [.int .i64 0, .slice none 0 0, .slice none 0 0, .slice none 0 0, .int .i64 0]) 5 (ptr H1.next) (.agg R.toArray) = some HB ∧ On H1 HB ∧ HB.next = H1.next + 1 ∧ ∀ j, HB.load ⟨H1.next, j, none⟩ = R[j]? := by
  have V := Vr.mk' hw 26 5 [.int .i64 0, .slice none 0 0, .slice none 0 0, .slice none 0 0, .int .i64 0]
  exact ⟨_, V.storeA (by decide) R h5 rfl, ((On.refl hw).new _ _ _).put (Nat.le_refl _) _, rfl, (V.put R).load⟩
def okI (n : Int) : Prop := -9223372036854775808 ≤ n ∧ n ≤ 9223372036854775807
/-- All numbers of a task may be words, and its rows are not too long. -/
structure TkOk (t : Tk) : Prop where
  age : okI t.age
  deep : okI t.deep
  rd : ∀ n ∈ t.reads, okI n
  wr : ∀ n ∈ t.writes, okI n
  fr : ∀ n ∈ t.from', okI n
  lr : t.reads.length ≤ 50
  lw : t.writes.length ≤ 50
  lf : t.from'.length ≤ 50
/-! ### rows that are the same -/
def InvRo (H : Heap) (x y : Value) (l m : List Int) (k : Nat) (t : Tm) (H1 : Heap) : Prop :=
  ∃ i, i + k = l.length ∧ t 0 = x ∧ t 1 = y ∧ t 5 = iv i ∧ H1 = H ∧ l.take i = m.take i
theorem row_T {H : Heap} {x y : Value} {l m : List Int} (hx : Ints H .i64 x l) (hy : Ints H .i64 y m) (hl : l.length ≤ 100000) : T Try.prog 5 [x, y] H (.bool (decide (l = m))) H := by
  obtain ⟨bb, hbb⟩ : ∃ bb, bb = decide (l = m) := ⟨_, rfl⟩
  rw [← hbb]
  refine T_eq hm light5 ?_
  obtain ⟨a1, c1, h1⟩ := hx.len
  obtain ⟨a2, c2, h2⟩ := hy.len
  by_cases hlm : l.length = m.length
  · have e0 : ((l.length : Int) != (m.length : Int)) = false := by simp [hlm]
    rw [h1, h2]
    simp [L5, e0]
    rw [← h1, ← h2]
    refine loop_at (InvRo H x y l m) l.length ?_ ?_
    · exact ⟨0, by omega, by simp, by simp, by simp, rfl, by simp⟩
    · rintro k t H1 ⟨i, hik, t0, t1, t5, rfl, htk⟩
      cases k with
      | zero =>
        have e1 : ¬ ((i : Int) < l.length) := by omega
        have : l = m := by
          rw [List.take_of_length_le (by omega), List.take_of_length_le (by omega)] at htk
          exact htk
        have hb : bb = true := by rw [hbb]; simp [this]
        rw [h1] at t0
        simp [L5_1, t5, t0, e1, hb]
      | succ k =>
        have hil : i < l.length := by omega
        have him : i < m.length := by omega
        have e1 : ((i : Int) < l.length) := by omega
        have e4 : IntKind.i64.wrap ((i : Int) + 1) = ((i + 1 : Nat) : Int) := by rw [w64 _ (by omega)]; omega
        obtain ⟨iN, hiN⟩ : ∃ n : Nat, n = i + 1 := ⟨_, rfl⟩
        rw [← hiN] at e4
        obtain ⟨b, off, c, hxb, ldx⟩ := hx.at hil
        obtain ⟨b', off', c', hyb, ldy⟩ := hy.at him
        have t0' := t0
        have t1' := t1
        rw [hxb] at t0
        rw [hyb] at t1
        by_cases he : l[i] = m[i]
        · have e2 : (l[i] != m[i]) = false := by simp [he]
          rw [← he] at ldy
          simp [L5_1, t5, t0, t1, e1, hil, him, ldx, ldy, e4]
          refine ⟨k, by omega, iN, by omega, by simp [t0'], by simp [t1'], by simp, rfl, ?_⟩
          rw [hiN, List.take_add_one, List.take_add_one, htk]
          simp [hil, him, he]
        · have e2 : (l[i] != m[i]) = true := by simp [he]
          have hb : bb = false := by
            rw [hbb]; simp
            intro h; subst h; exact he rfl
          simp [L5_1, t5, t0, t1, e1, hil, him, ldx, ldy, e4, e2, hb]
  · have e0 : ((l.length : Int) != (m.length : Int)) = true := by simp; omega
    have hb : bb = false := by
      rw [hbb]; simp
      intro h; rw [h] at hlm; exact hlm rfl
    rw [h1, h2]
    simp [L5, e0, hb]
/-! ### the one ahead -/
def optI : Option Nat → Int
  | none => -1
  | some i => (i : Int)
theorem optI_lt (o : Option Nat) : (optI o < 0) ↔ o = none := by
  cases o with
  | none => simp [optI]
  | some i => simp [optI]
def InvFi (H : Heap) (x : Value) (L : List Tk) (w d : Int) (k : Nat) (t : Tm) (H1 : Heap) : Prop :=
  ∃ i, i + k = L.length ∧ t 0 = x ∧ t 1 = iv w ∧ t 2 = iv d ∧ t 7 = iv i ∧ H1 = H ∧ findV L w d k i = findV L w d L.length 0
theorem find_T {H : Heap} {x : Value} {L : List Tk} (hx : TkL H x L) (hl : L.length ≤ 100000) (w d : Int) : T Try.prog 18 [x, iv w, iv d] H (iv (optI (findV L w d L.length 0))) H := by
  obtain ⟨R, hR⟩ : ∃ R, R = findV L w d L.length 0 := ⟨_, rfl⟩
  rw [← hR]
  refine T_eq hm light18 ?_
  simp [L18]
  refine loop_at (InvFi H x L w d) L.length ?_ ?_
  · exact ⟨0, by omega, by simp, by simp, by simp, by simp, rfl, rfl⟩
  · rintro k t H1 ⟨i, hik, t0, t1, t2, t7, rfl, hgo⟩
    cases k with
    | zero =>
      have e1 : ¬ ((i : Int) < L.length) := by omega
      obtain ⟨a, c, h1⟩ := hx.len
      rw [h1] at t0
      simp [findV] at hgo
      rw [← hgo] at hR
      simp [L18_1, t7, t0, e1, hR, optI]
    | succ k =>
      have hil : i < L.length := by omega
      have e1 : ((i : Int) < L.length) := by omega
      have e4 : IntKind.i64.wrap ((i : Int) + 1) = ((i + 1 : Nat) : Int) := by rw [w64 _ (by omega)]; omega
      obtain ⟨iN, hiN⟩ : ∃ n : Nat, n = i + 1 := ⟨_, rfl⟩
      rw [← hiN] at e4
      obtain ⟨b, off, c, u, v, z, A⟩ := hx.at hil
      have t0' := t0
      rw [A.hx] at t0
      have c0 := A.c0
      have c4 := A.c4
      obtain ⟨ag, hag⟩ : ∃ a, a = L[i].age := ⟨_, rfl⟩
      obtain ⟨dp, hdp⟩ : ∃ a, a = L[i].deep := ⟨_, rfl⟩
      rw [← hag] at c0
      rw [← hdp] at c4
      rw [findV, List.getElem?_eq_getElem hil] at hgo
      simp only [← hag, ← hdp] at hgo
      by_cases h1 : ag = w
      · by_cases h2 : dp = d
        · rw [if_pos ⟨h1, h2⟩] at hgo
          rw [← hgo] at hR
          simp [L18_1, t7, t0, t1, t2, e1, hil, c0, c4, h1, h2, hR, optI]
        · rw [if_neg (fun h => h2 h.2)] at hgo
          have g2 : (dp == d) = false := by simpa using h2
          simp [L18_1, t7, t0, t1, t2, e1, hil, c0, c4, h1, g2, e4]
          exact ⟨k, by omega, iN, by omega, by simp [t0'], by simp [t1], by simp [t2], by simp, rfl, by rw [hiN]; exact hgo⟩
      · rw [if_neg (fun h => h1 h.1)] at hgo
        have g1 : (ag == w) = false := by simpa using h1
        simp [L18_1, t7, t0, t1, t2, e1, hil, c0, c4, g1, e4]
        exact ⟨k, by omega, iN, by omega, by simp [t0'], by simp [t1], by simp [t2], by simp, rfl, by rw [hiN]; exact hgo⟩
abbrev nxt (d : Int) : Int := IntKind.i64.wrap (d - 1)
def InvB2 (H H0 : Heap) (x z : Value) (L : List Tk) (at' i m : Nat) (w dn : Int) (k : Nat) (t : Tm) (H1 : Heap) : Prop :=
  ∃ j, j + k = L.length ∧ t 0 = x ∧ t 1 = iv at' ∧ t 13 = z ∧ t 14 = iv m ∧ t 15 = iv i ∧ t 6 = iv w ∧ t 19 = x ∧ t 20 = iv L.length ∧ t 21 = iv j ∧ On H H1 ∧ findV L w dn k j = findV L w dn L.length 0
def InvB1 (H : Heap) (x z : Value) (L : List Tk) (at' : Nat) (F : List Int) (dn : Int) (k : Nat) (t : Tm) (H1 : Heap) : Prop :=
  ∃ i, i + k = F.length ∧ t 0 = x ∧ t 1 = iv at' ∧ t 13 = z ∧ t 14 = iv F.length ∧ t 15 = iv i ∧ On H H1 ∧ befV L dn (F.drop i) = befV L dn F
theorem bef_T {H : Heap} (hw : H.WF) {x : Value} {L : List Tk} (hx : TkL H x L) (hl : L.length ≤ 100000) (at' : Nat) (ha : at' < L.length) (hf : L[at'].from'.length ≤ 50) : T Try.prog 17 [x, iv at'] H (iv (optI (befV L (nxt L[at'].deep) L[at'].from'))) H := by
  obtain ⟨R, hR⟩ : ∃ R, R = befV L (nxt L[at'].deep) L[at'].from' := ⟨_, rfl⟩
  rw [← hR]
  obtain ⟨D, hD⟩ : ∃ D, D = L[at'].deep := ⟨_, rfl⟩
  obtain ⟨F, hF⟩ : ∃ F, F = L[at'].from' := ⟨_, rfl⟩
  obtain ⟨dn, hdn⟩ : ∃ dn, dn = nxt D := ⟨_, rfl⟩
  have ed : IntKind.i64.wrap (D - 1) = dn := hdn.symm
  rw [← hD, ← hF, ← hdn] at hR
  rw [← hF] at hf
  refine T_seen hm light17 rfl ?_
  obtain ⟨b, off, c, hxs, all⟩ := hx.all (by omega)
  obtain ⟨u0, v0, z, A0⟩ := all at' ha
  have iz := A0.iz
  rw [← hF] at iz
  obtain ⟨az, cz, hz⟩ := iz.len
  have c3 := A0.c3
  have c40 := A0.c4
  rw [← hD] at c40
  simp [L17, hxs, ha, c3, hz]
  rw [← hxs, ← hz]
  refine loop_at (InvB1 H x z L at' F dn) F.length ?_ ?_
  · exact ⟨0, by omega, by simp, by simp, by simp, by simp, by simp, On.refl hw, by simp⟩
  · rintro k t H1 ⟨i, hik, t0, t1, t13, t14, t15, on1, hgo⟩
    cases k with
    | zero =>
      have e1 : ¬ ((i : Int) < F.length) := by omega
      rw [List.drop_of_length_le (by omega)] at hgo
      rw [← hgo, befV] at hR
      simp [L17_2, t14, t15, e1, hR, optI]
      exact on1.keep
    | succ k =>
      have hil : i < F.length := by omega
      have e1 : ((i : Int) < F.length) := by omega
      have e4 : IntKind.i64.wrap ((i : Int) + 1) = ((i + 1 : Nat) : Int) := by rw [w64 _ (by omega)]; omega
      obtain ⟨iN, hiN⟩ : ∃ n : Nat, n = i + 1 := ⟨_, rfl⟩
      rw [← hiN] at e4
      obtain ⟨bz, oz, cz', hzb, ldz⟩ := (Ints.on hw iz on1).at hil
      obtain ⟨w, hwv⟩ : ∃ w, w = F[i] := ⟨_, rfl⟩
      rw [← hwv] at ldz
      have t13' := t13
      rw [hzb] at t13
      have hd : F.drop i = w :: F.drop iN := by rw [hwv, hiN]; exact List.drop_eq_getElem_cons hil
      rw [hd, befV] at hgo
      have t0' := t0
      rw [hxs] at t0
      simp [L17_2, t14, t15, e1, t13, hil, ldz, t0]
      rw [← hxs]
      refine loop_at (InvB2 H H1 x z L at' i F.length w dn) L.length ?_ ?_
      · exact ⟨0, by omega, by simp [t0'], by simp [t1], by simp [t13'], by simp [t14], by simp [t15], by simp, by simp, by simp, by simp, on1, rfl⟩
      · rintro k2 t H2 ⟨j, hjk, t0, t1, t13, t14, t15, t6, t19, t20, t21, on2, hfd⟩
        cases k2 with
        | zero =>
          have e2 : ¬ ((j : Int) < L.length) := by omega
          rw [findV] at hfd
          rw [← hfd] at hgo
          simp [L17_1, t20, t21, e2, t15, e4]
          exact ⟨k, by omega, iN, by omega, by simp [t0], by simp [t1], by simp [t13], by simp [t14], by simp, on2, hgo⟩
        | succ k2 =>
          have hjl : j < L.length := by omega
          have e2 : ((j : Int) < L.length) := by omega
          have e5 : IntKind.i64.wrap ((j : Int) + 1) = ((j + 1 : Nat) : Int) := by rw [w64 _ (by omega)]; omega
          obtain ⟨jN, hjN⟩ : ∃ n : Nat, n = j + 1 := ⟨_, rfl⟩
          rw [← hjN] at e5
          obtain ⟨u, v, z2, A⟩ := all j hjl
          have A2 := A.on hw on2
          have all5 := A2.all
          obtain ⟨ag, hag⟩ : ∃ a, a = L[j].age := ⟨_, rfl⟩
          obtain ⟨dp, hdp⟩ : ∃ a, a = L[j].deep := ⟨_, rfl⟩
          rw [← hag, ← hdp] at all5
          obtain ⟨R5, hR5⟩ : ∃ R5, R5 = [iv ag, u, v, z2, iv dp] := ⟨_, rfl⟩
          rw [← hR5] at all5
          obtain ⟨HB, stB, onB, nB, ldB⟩ := newTk on2.wf R5 (by rw [hR5]; rfl)
          have l0 : HB.load ⟨H2.next, 0, none⟩ = some (iv ag) := by rw [ldB, hR5]; rfl
          have l4 : HB.load ⟨H2.next, 4, none⟩ = some (iv dp) := by rw [ldB, hR5]; rfl
          have on3 := on2.trans onB
          have c4B := (A0.on hw on3).c4
          rw [← hD] at c4B
          rw [findV, List.getElem?_eq_getElem hjl] at hfd
          simp only [← hag, ← hdp] at hfd
          have t19' := t19
          have t0' := t0
          rw [hxs] at t19 t0
          by_cases h1 : ag = w
          · have g1 : (ag == w) = true := by simp [h1]
            by_cases h2 : dp = dn
            · have g2 : (dp == dn) = true := by simp [h2]
              rw [if_pos ⟨h1, h2⟩] at hfd
              rw [← hfd] at hgo
              rw [← hgo] at hR
              simp [L17_1, t20, t21, e2, t19, hjl, all5, stB, l0, l4, t6, t0, t1, ha, c4B, ed, g1, g2, hR, optI]
              exact on3.keep
            · have g2 : (dp == dn) = false := by simpa using h2
              rw [if_neg (fun h => h2 h.2)] at hfd
              simp [L17_1, t20, t21, e2, t19, hjl, all5, stB, l0, l4, t6, t0, t1, ha, c4B, ed, g1, g2, e5]
              exact ⟨k2, by omega, jN, by omega, by simp [t0'], by simp [t1], by simp [t13], by simp [t14], by simp [t15], by simp [t6], by simp [t19'], by simp [t20], by simp, on3, by rw [hjN]; exact hfd⟩
          · have g1 : (ag == w) = false := by simpa using h1
            rw [if_neg (fun h => h1 h.1)] at hfd
            simp [L17_1, t20, t21, e2, t19, hjl, all5, stB, l0, l4, t6, t0, t1, ha, c4B, ed, g1, e5]
            exact ⟨k2, by omega, jN, by omega, by simp [t0'], by simp [t1], by simp [t13], by simp [t14], by simp [t15], by simp [t6], by simp [t19'], by simp [t20], by simp, on3, by rw [hjN]; exact hfd⟩
end Go.Proofs.Ytfmcnojojknkfaa
