/-
  Chapter 8: where one may go on, by the document.
-/
import Derived.Test.YtkocomnfomjfiaaSeatP
namespace Go.Proofs.Ytkocomnfomjfiaa
open Go.Ot Go.RowKit
set_option linter.unusedSimpArgs false
set_option linter.unusedVariables false
theorem Og.beside {H H1 H2 : Heap} {ety n : Nat} {cs : List Value} {y y' : Value} (g : Og H H1 ety y n cs y') (hb : H2.base = H1.base) (hn : H1.next ≤ H2.next) (hw : H2.WF) (hk : ∀ b, b < H1.next → H2.blk b = H1.blk b) : Og H H2 ety y n cs y' :=
  ⟨hb.trans g.base, Nat.le_trans g.next hn, hw, g.own.keep (B_eq hb) (fun b h => hk b (g.own.lt g.wf h)), fun b h1 h2 => (hk b (Nat.lt_of_lt_of_le h1 g.next)).trans (g.same b h1 h2), g.old⟩
def upTo (i : Int) (l : List Int) : List Int := l.filter fun z => decide (z < i)
theorem tlv_step (o : List Int) (tg : Bool) (k i : Int) (ho : o = [] ∨ ∃ a, o = [a]) :
    upTo (i + 1) (tlv o tg k) = upTo i (tlv o tg k) ++ (if i ∈ o ∨ (tg = true ∧ k = i) then [i] else []) := by
  have key : ∀ z : Int, (z < i ∧ z < i + 1 ∧ ¬ z = i ∧ ¬ i = z) ∨ z = i ∨ (¬ z < i ∧ ¬ z < i + 1 ∧ ¬ z = i ∧ ¬ i = z) := fun z => by omega
  have u0 : ∀ n, upTo n [] = [] := fun n => rfl
  have u1 : ∀ n z l, upTo n (z :: l) = if z < n then z :: upTo n l else upTo n l := fun n z l => by unfold upTo; rw [List.filter_cons]; simp
  have ui : i < i + 1 := by omega
  rcases ho with rfl | ⟨a, rfl⟩
  · cases tg with
    | false => simp [tlv, upTo]
    | true =>
      rcases key k with ⟨h1, h2, h3, h4⟩ | h0 | ⟨h1, h2, h3, h4⟩
      · simp [tlv, u0, u1, h1, h2, h3, h4]
      · subst h0; simp [tlv, u0, u1, ui]
      · simp [tlv, u0, u1, h1, h2, h3, h4]
  · cases tg with
    | false =>
      rcases key a with ⟨h1, h2, h3, h4⟩ | h0 | ⟨h1, h2, h3, h4⟩
      · simp [tlv, u0, u1, h1, h2, h3, h4]
      · subst h0; simp [tlv, u0, u1, ui]
      · simp [tlv, u0, u1, h1, h2, h3, h4]
    | true =>
      by_cases e : a = k
      · subst e
        rcases key a with ⟨h1, h2, h3, h4⟩ | h0 | ⟨h1, h2, h3, h4⟩
        · simp [tlv, u0, u1, h1, h2, h3, h4]
        · subst h0; simp [tlv, u0, u1, ui]
        · simp [tlv, u0, u1, h1, h2, h3, h4]
      · by_cases e2 : k < a
        · have et : tlv [a] true k = [k, a] := by simp [tlv, e, e2]
          rw [et, u1, u1, u0, u1, u1, u0]
          rcases key a with ⟨h1, h2, h3, h4⟩ | h0 | ⟨h1, h2, h3, h4⟩ <;> rcases key k with ⟨g1, g2, g3, g4⟩ | g0 | ⟨g1, g2, g3, g4⟩
          · simp [h1, h2, h3, h4, g1, g2, g3, g4]
          · omega
          · omega
          · subst h0; simp [g1, g2, g3, g4, ui]
          · omega
          · omega
          · simp [h1, h2, h3, h4, g1, g2, g3, g4]
          · subst g0; simp [h1, h2, h3, h4, ui]
          · simp [h1, h2, h3, h4, g1, g2, g3, g4]
        · have et : tlv [a] true k = [a, k] := by simp [tlv, e, e2]
          rw [et, u1, u1, u0, u1, u1, u0]
          rcases key a with ⟨h1, h2, h3, h4⟩ | h0 | ⟨h1, h2, h3, h4⟩ <;> rcases key k with ⟨g1, g2, g3, g4⟩ | g0 | ⟨g1, g2, g3, g4⟩
          · simp [h1, h2, h3, h4, g1, g2, g3, g4]
          · subst g0; simp [h1, h2, h3, h4, ui]
          · simp [h1, h2, h3, h4, g1, g2, g3, g4]
          · omega
          · omega
          · subst h0; simp [g1, g2, g3, g4, ui]
          · omega
          · omega
          · simp [h1, h2, h3, h4, g1, g2, g3, g4]
theorem tlv_mem {o : List Int} {tg : Bool} {k z : Int} (h : z ∈ tlv o tg k) : z ∈ o ∨ (tg = true ∧ z = k) := by
  unfold tlv at h
  split at h
  · split at h <;> simp_all
  · split at h
    · simp_all
    · split at h <;> · simp_all; rcases h with h | h <;> simp [h]
/-- The places behind a place that is there. -/
theorem tgtV_at {l : List In} {i : Nat} (hi : i < l.length) : tgtV l i = tlv (if fallsV l[i].kind && decide ((i : Int) + 1 < l.length) then [(i : Int) + 1] else []) ((shp l[i].kind).target && decide (0 ≤ l[i].k) && decide (l[i].k < l.length)) l[i].k := by
  unfold tgtV
  rw [if_neg (by omega)]
  simp [hi]
theorem tgtV_in {l : List In} {i : Nat} (hi : i < l.length) : ∀ z ∈ tgtV l i, 0 ≤ z ∧ z < l.length := by
  rw [tgtV_at hi]
  intro z hz
  rcases tlv_mem hz with h | ⟨h, rfl⟩
  · split at h
    · rename_i h1
      simp at h h1
      omega
    · simp at h
  · simp at h
    omega
def stepV (l : List In) (i : Nat) (hi : i < l.length) (j : Nat) : Bool := (decide (j = i + 1) && fallsV l[i].kind) || ((shp l[i].kind).target && decide (l[i].k = j))
theorem tgtV_step {l : List In} {i : Nat} (hi : i < l.length) {j : Nat} (hj : j < l.length) : upTo ((j : Int) + 1) (tgtV l i) = upTo j (tgtV l i) ++ (if stepV l i hi j then [(j : Int)] else []) := by
  rw [tgtV_at hi, tlv_step _ _ _ _ (by split <;> simp)]
  congr 1
  have : ((j : Int) ∈ (if fallsV l[i].kind && decide ((i : Int) + 1 < l.length) then [(i : Int) + 1] else []) ∨ (((shp l[i].kind).target && decide (0 ≤ l[i].k) && decide (l[i].k < l.length)) = true ∧ l[i].k = j)) ↔ stepV l i hi j = true := by
    unfold stepV
    cases fallsV l[i].kind <;> cases (shp l[i].kind).target <;> simp <;> omega
  simp only [this]
theorem upTo_zero {l : List Int} (h : ∀ z ∈ l, 0 ≤ z) : upTo 0 l = [] := by
  unfold upTo
  rw [List.filter_eq_nil_iff]
  intro z hz
  have := h z hz
  simp; omega
theorem upTo_all {l : List Int} {n : Int} (h : ∀ z ∈ l, z < n) : upTo n l = l := by
  unfold upTo
  rw [List.filter_eq_self]
  intro z hz
  simpa using h z hz
def InvTg (H : Heap) (xl : Value) (l : List In) (i : Nat) (k : Nat) (t : Tm) (H1 : Heap) : Prop :=
  ∃ (j : Nat) (y : Value), j + k = l.length ∧ t 0 = xl ∧ t 1 = iv i ∧ t 5 = y ∧ t 6 = iv j ∧ GI H H1 (upTo j (tgtV l i)) y
theorem upTo_len (j : Int) (l : List Int) : (upTo j l).length ≤ l.length := List.length_filter_le _ _
theorem tlv_len (o : List Int) (tg : Bool) (k : Int) : (tlv o tg k).length ≤ 2 := by
  unfold tlv; split
  · split <;> simp
  · split
    · simp
    · split <;> simp
def R21a : LCode := match L21_1 with | .seq a _ => a | _ => .skip
def R21b : LCode := match L21_1 with | .seq _ (.seq (.block _ (.seq a _)) _) => a | _ => .skip
def R21c : LCode := match L21_1 with | .seq _ (.seq (.block _ (.seq _ a)) _) => a | _ => .skip
def R21d : LCode := match L21_1 with | .seq _ (.seq _ a) => a | _ => .skip
theorem L21_1_eq : L21_1 = .seq R21a (.seq (.block 1 (.seq R21b R21c)) R21d) := rfl
theorem parts_sz (k : Int) : (parts k).size ≤ 1000000 := by
  cases hv : valid k with
  | false => unfold parts; rw [hv, if_neg (by simp)]; decide
  | true => rcases kinds hv with h | h | h | h | h | h | h | h | h | h | h | h | h <;> rw [h] <;> decide
theorem r21c_w {H H1 : Heap} {xl y : Value} {l : List In} {i j : Nat} (hi : i < l.length) (hw : H.WF) (hx : Rws H 6 xl (l.map rowI)) (hk : okI l[i].kind) {u : List Int} (hul : u.length ≤ 2) (g : GI H H1 u y) {t : Tm} (t0 : t 0 = xl) (t1 : t 1 = iv i) (t5 : t 5 = y) (t6 : t 6 = iv j) {nx : Bool} (t7 : t 7 = .bool nx)
    {Q : Post} (hQ : ∀ (t' : Tm) (H' : Heap) (y' : Value), t' 0 = xl → t' 1 = iv i → t' 5 = y' → t' 6 = iv j → GI H H' (u ++ (if (nx || ((shp l[i].kind).target && decide (l[i].k = j))) then [(j : Int)] else [])) y' → Q .normal t' (rdy H')) : wpA Try.prog R21c Q t (rdy H1) := by
  have hx1 := hx.keep hw g.base (fun b hb => g.same b hb (by simp))
  obtain ⟨b, off, c, hyb, hlen, ld, ldj⟩ := hx1.at (i := i) (by simpa using hi)
  simp only [List.getElem_map, List.length_map] at hyb hlen ld ldj
  obtain ⟨x, hxi⟩ : ∃ x, x = l[i] := ⟨_, rfl⟩
  have ld0 : H1.load ⟨b, off + i * 6, none⟩ = some (iv x.kind) := by rw [hxi]; exact ldj 0 (by simp [rowI])
  have ld5 : H1.load ⟨b, off + i * 6 + 5, none⟩ = some (iv x.k) := by rw [hxi]; exact ldj 5 (by simp [rowI])
  rw [← hxi] at ld hk hQ
  obtain ⟨v2, H2, T2, rfl, s2⟩ := parts_T g.wf x.kind hk
  have w2 := T2.grow.wf g.wf
  have n2 := T2.grow.next
  have k2 : ∀ b, b < H1.next → H2.blk b = H1.blk b := fun b hb => s2 b hb (by simp)
  have g2 := Og.beside g T2.1 n2 w2 k2
  have T3 := has_T (H := H2) (parts x.kind) 116 (parts_sz _)
  rw [has_t] at T3
  have ld5' : H2.load ⟨b, off + i * 6 + 5, none⟩ = some (iv x.k) := load_keepN g.wf T2.1 k2 ld5
  obtain ⟨HA, ap, og⟩ := Og.push w2 g2.own (iv j) (bytes := 8) (c := 0) (by omega)
  have og2 := g2.trans og
  have e0 : off + i * 6 + 0 = off + i * 6 := rfl
  obtain ⟨ps, hps⟩ : ∃ ps, ps = parts x.kind := ⟨_, rfl⟩
  rw [← hps] at T2 T3
  have fin1 : (nx || ((shp x.kind).target && decide (x.k = j))) = true → GI H HA (u ++ (if (nx || ((shp x.kind).target && decide (x.k = j))) then [(j : Int)] else [])) (sl (H2.next + 1) (u.length + 1)) := by
    intro h; simp only [h, if_true]
    have : GI H HA (u ++ [(j : Int)]) (sl (H2.next + 1) (u.length + 1)) := by
      unfold GI
      rw [List.length_append, List.map_append]
      exact og2
    exact this
  have fin0 : (nx || ((shp x.kind).target && decide (x.k = j))) = false → GI H H2 (u ++ (if (nx || ((shp x.kind).target && decide (x.k = j))) then [(j : Int)] else [])) y := by
    intro h; rw [h]; simpa using g2
  obtain ⟨tg, htg⟩ : ∃ tg, tg = (shp x.kind).target := ⟨_, rfl⟩
  rw [← htg] at T3 hQ fin1 fin0
  rw [hyb] at t0
  simp [R21c, L21_1, t0, t1, hi, ld0]
  refine goT_of T2 ?_
  simp
  refine goT_of T3 ?_
  cases tg with
  | false =>
    cases nx with
    | false =>
      simp [t7]
      exact hQ _ H2 y (by simp [t0, hyb]) (by simp [t1]) (by simp [t5]) (by simp [t6]) (fin0 rfl)
    | true =>
      simp [t7, t5, t6, zerosA, ap]
      exact hQ _ HA (sl (H2.next + 1) (u.length + 1)) (by simp [t0, hyb]) (by simp [t1]) (by simp) (by simp [t6]) (fin1 rfl)
  | true =>
    by_cases hkj : x.k = j
    · have e1 : (x.k == (j : Int)) = true := by simp [hkj]
      have e2 : decide (x.k = (j : Int)) = true := by simp [hkj]
      have h1 : (nx || (true && decide (x.k = (j : Int)))) = true := by simp [hkj]
      cases nx <;>
      · simp [t7, t5, t6, t0, t1, hi, ld5', e1, zerosA, ap]
        exact hQ _ HA (sl (H2.next + 1) (u.length + 1)) (by simp [t0, hyb]) (by simp [t1]) (by simp) (by simp [t6]) (fin1 h1)
    · have e1 : (x.k == (j : Int)) = false := by simp [hkj]
      cases nx with
      | false =>
        simp [t7, t5, t6, t0, t1, hi, ld5', e1]
        exact hQ _ H2 y (by simp [t0, hyb]) (by simp [t1]) (by simp [t5]) (by simp [t6]) (fin0 (by simp [hkj]))
      | true =>
        simp [t7, t5, t6, t0, t1, hi, ld5', e1, zerosA, ap]
        exact hQ _ HA (sl (H2.next + 1) (u.length + 1)) (by simp [t0, hyb]) (by simp [t1]) (by simp) (by simp [t6]) (fin1 rfl)
theorem targetsR_T {H : Heap} (hw : H.WF) {xl : Value} {l : List In} (hx : Rws H 6 xl (l.map rowI)) (hk : ∀ a ∈ l, okI a.kind) (at' : Int) (hl : l.length ≤ 1000) : ∃ v H', T Try.prog 21 [xl, iv at'] H v H' ∧ GI H H' (tgtV l at') v := by
  refine T_by hm light21 ?_
  obtain ⟨xa, xc, hxl⟩ := hx.len
  rw [List.length_map] at hxl
  by_cases h1 : at' < 0
  · have e : tgtV l at' = [] := by unfold tgtV; rw [if_pos (.inl h1)]
    rw [e, hxl]
    simp [L21, h1]
    exact Og.refl hw (Own.nil H 3 1)
  by_cases h2 : (l.length : Int) ≤ at'
  · have e : tgtV l at' = [] := by unfold tgtV; rw [if_pos (.inr h2)]
    rw [e, hxl]
    simp [L21, h1, h2]
    exact Og.refl hw (Own.nil H 3 1)
  obtain ⟨i, rfl⟩ : ∃ i : Nat, at' = i := ⟨at'.toNat, by omega⟩
  have hi : i < l.length := by omega
  have hin := tgtV_in hi
  have htl : (tgtV l i).length ≤ 2 := by rw [tgtV_at hi]; exact tlv_len _ _ _
  have h3 : ¬ l.length ≤ i := by omega
  rw [hxl]
  simp [L21, h1, h3]
  rw [← hxl]
  refine loop_at (InvTg H xl l i) l.length ?_ ?_
  · refine ⟨0, .slice none 0 0, by omega, by simp [hxl], by simp, by simp, by simp, ?_⟩
    rw [show ((0 : Nat) : Int) = 0 from rfl, upTo_zero (fun z hz => (hin z hz).1)]
    exact Og.refl hw (Own.nil H 3 1)
  · rintro k t H1 ⟨j, y, hjk, t0, t1, t5, t6, g⟩
    cases k with
    | zero =>
      have ej : j = l.length := by omega
      subst ej
      rw [upTo_all (fun z hz => (hin z hz).2)] at g
      obtain ⟨ya, hya⟩ := g.own.len
      rw [hxl] at t0
      simp [L21_1, t0, t5, t6]
      exact ⟨by rw [hya]; rfl, g⟩
    | succ k =>
      have hj : j < l.length := by omega
      have hx1 := hx.keep hw g.base (fun b hb => g.same b hb (by simp))
      obtain ⟨b, off, c, hyb, hlen, ld, ldj⟩ := hx1.at (i := i) (by simpa using hi)
      simp only [List.getElem_map, List.length_map] at hyb hlen ld ldj
      have hst := tgtV_step hi hj
      have hul := upTo_len j (tgtV l i)
      have e3 : IntKind.i64.wrap ((i : Int) + 1) = ((i + 1 : Nat) : Int) := by rw [w64 _ (by omega)]; omega
      have e4 : IntKind.i64.wrap ((j : Int) + 1) = ((j + 1 : Nat) : Int) := by rw [w64 _ (by omega)]; omega
      have e5 : ((j : Int) + 1) = ((j + 1 : Nat) : Int) := by omega
      rw [e5] at hst
      obtain ⟨i1, hi1⟩ : ∃ i1, i1 = i + 1 := ⟨_, rfl⟩
      obtain ⟨j1, hj1⟩ : ∃ j1, j1 = j + 1 := ⟨_, rfl⟩
      rw [← hi1] at e3
      rw [← hj1] at e4 hst
      unfold stepV at hst
      have t0' := t0
      rw [hyb] at t0'
      -- the end of a round
      have fin : ∀ (K : Post) (t' : Tm) (H' : Heap) (y' : Value), t' 0 = xl → t' 1 = iv i → t' 5 = y' → t' 6 = iv j → GI H H' (upTo j1 (tgtV l i)) y' →
          wpA Try.prog R21d (thenA (fun t' H' => ∃ m, m < k + 1 ∧ InvTg H xl l i m t' H') K) t' (rdy H') := by
        intro K t' H' y' h0 h1 h5 h6 g'
        simp [R21d, L21_1, h6, e4]
        exact ⟨k, Nat.lt_succ_self k, j1, y', by omega, by simp [h0], by simp [h1], by simp [h5], by simp, g'⟩
      rw [L21_1_eq]
      by_cases hji : j = i1
      · have hji' : j = i + 1 := by omega
        obtain ⟨v2, H2, T2, rfl, s2⟩ := fallsR_T g.wf l[i]
        have g2 := Og.beside g T2.1 T2.grow.next (T2.grow.wf g.wf) (fun b hb => s2 b hb (by simp))
        have e6 : decide (j = i + 1) = true := by simp [hji']
        rw [e6, Bool.true_and] at hst
        rw [← hji] at e3
        simp [R21a, R21b, L21_1, t0', t1, t5, t6, hj, e3, hi, ld]
        refine goT_of T2 ?_
        simp
        refine r21c_w (j := j) hi hw hx (hk _ (List.getElem_mem hi)) (by omega) g2 (by simp [t0]) (by simp [t1]) (by simp [t5]) (by simp [t6]) (nx := fallsV l[i].kind) (by simp) (fun t' H' y' h0 h1 h5 h6 g' => ?_)
        simp
        exact fin _ t' H' y' h0 h1 h5 h6 (by rw [hst]; exact g')
      · have hji' : ¬ j = i + 1 := by omega
        have e6 : decide (j = i + 1) = false := by simp [hji']
        rw [e6, Bool.false_and] at hst
        simp [R21a, R21b, L21_1, t0', t1, t5, t6, hj, e3, hji]
        refine r21c_w (j := j) hi hw hx (hk _ (List.getElem_mem hi)) (by omega) g (by simp [t0]) (by simp [t1]) (by simp [t5]) (by simp [t6]) (nx := false) (by simp) (fun t' H' y' h0 h1 h5 h6 g' => ?_)
        simp
        exact fin _ t' H' y' h0 h1 h5 h6 (by rw [hst]; exact g')
end Go.Proofs.Ytkocomnfomjfiaa
