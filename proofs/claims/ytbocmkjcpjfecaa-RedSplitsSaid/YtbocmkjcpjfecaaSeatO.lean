/-
  RedSplits answers true at all reductions and all that goes into them.
-/
import Derived.Test.YtbocmkjcpjfecaaSeatN
namespace Go.Proofs.Ytbocmkjcpjfecaa
open Go.Ot Go.ChangeShapes Go.WideShapes Go.ChangeAt Go.RowKit
set_option linter.unusedSimpArgs false
set_option linter.unusedVariables false
def Inv1 (H : Heap) (x0 x1 x2 : Value) (p1 p2 p3 : Nat) (rs : List (Int × Int)) (k : Nat) (t : Tm) (H1 : Heap) : Prop :=
  ∃ i y, i + k = rs.length ∧ t 0 = x0 ∧ t 1 = x1 ∧ t 2 = x2 ∧ t 7 = ptr p1 ∧ t 9 = ptr p2 ∧ t 11 = ptr p3 ∧ t 13 = y ∧ t 14 = iv (i : Nat) ∧ Og H H1 2 (.slice none 0 0) i (ci ((rs.take i).map (·.2))) y
def Inv2 (G : Heap) (x1 x2 y : Value) (n1 n2 n3 p1 p2 p3 : Nat) (ops ahead : List Int) (m : Nat) (k : Nat) (t : Tm) (H1 : Heap) : Prop :=
  ∃ i, i + k = m ∧ t 1 = x1 ∧ t 2 = x2 ∧ t 7 = ptr p1 ∧ t 9 = ptr p2 ∧ t 11 = ptr p3 ∧ t 13 = y ∧ t 15 = iv (i : Nat) ∧ (∀ b, blkOf y = some b → n3 ≤ b) ∧ Own H1 2 1 ahead.length (ci ahead) y ∧
    ∃ nA nB nC mA mB mC o1 w1 o2 w2 o3 w3, ST G H1 n1 n2 n3 p1 p2 p3 ops nA nB nC mA mB mC o1 w1 o2 w2 o3 w3 i
theorem splits_T {H : Heap} (hw : H.WF) {x0 x1 x2 : Value} {rs l : List (Int × Int)} {ws : List Bool} (h0 : Twos H x0 rs) (h1 : Twos H x1 l) (h2 : Bools H x2 ws) : ∃ v H', T Try.prog 6 [x0, x1, x2] H v H' ∧ v = .bool true := by
  refine T_by hm light6 ?_
  obtain ⟨a0, c0, e0⟩ := h0.len
  obtain ⟨a1, c1, e1⟩ := h1.len
  obtain ⟨a2, c2, e2⟩ := h2.len
  by_cases hl : 200 < l.length
  · rw [e1]; simp [L6, hl]
  by_cases hr : 100 < rs.length
  · rw [e0, e1]; simp [L6, hl, hr]
  obtain ⟨v1, H1, T1, wf1, b1, n1, k1, q1⟩ := new_T hw h0
  have r1 := h0.keep hw b1 k1
  obtain ⟨v2, H2, T2, wf2, b2, n2, k2, q2⟩ := new_T wf1 r1
  have r2 := r1.keep wf1 b2 k2
  obtain ⟨v3, H3, T3, wf3, b3, n3, k3, q3⟩ := new_T wf2 r2
  have r3 := r2.keep wf2 b3 k3
  obtain ⟨v9, H9, T9, rfl⟩ := alive_T wf3
  by_cases hbad : 4 < rs.length
  · unfold NewQ at q1 q2 q3
    rw [if_pos hbad] at q1 q2 q3
    subst q1 q2 q3
    rw [e0, e1]
    rw [e0] at T1 T2 T3
    simp [L6, hl, hr]
    refine goT_of T1 ?_
    simp
    refine goT_of T2 ?_
    simp
    refine goT_of T3 ?_
    simp
    refine goT_of T9 ?_
    simp
  by_cases hall : rs.all (fun r => right r.1) = true
  case neg =>
    unfold NewQ at q1 q2 q3
    rw [if_neg hbad, if_neg hall] at q1 q2 q3
    subst q1 q2 q3
    rw [e0, e1]
    rw [e0] at T1 T2 T3
    simp [L6, hl, hr]
    refine goT_of T1 ?_
    simp
    refine goT_of T2 ?_
    simp
    refine goT_of T3 ?_
    simp
    refine goT_of T9 ?_
    simp
  unfold NewQ at q1 q2 q3
  rw [if_neg hbad, if_pos hall] at q1 q2 q3
  obtain ⟨p1, o1, w1, rfl, N1⟩ := q1
  obtain ⟨p2, o2, w2, rfl, N2⟩ := q2
  obtain ⟨p3, o3, w3, rfl, N3⟩ := q3
  obtain ⟨ops, hops⟩ : ∃ ops, ops = rs.map (·.1) := ⟨_, rfl⟩
  obtain ⟨zs, hzs⟩ : ∃ zs, zs = rs.map (fun r => zeroV r.1) := ⟨_, rfl⟩
  have hpl : ops.length = rs.length := by rw [hops]; simp
  have hzl : zs.length = ops.length := by rw [hops, hzs]; simp
  have S0 : ST H H3 H1.next H2.next H3.next p1 p2 p3 ops zs zs zs 0 0 0 o1 w1 o2 w2 o3 w3 0 := by
    have A := N1.hp
    have B := N2.hp
    have C := N3.hp
    rw [← hops, ← hzs] at A B C
    refine ⟨(A.frame b2 (fun b _ h => k2 b h)).frame b3 (fun b _ h => k3 b (by omega)), B.frame b3 (fun b _ h => k3 b (by omega)), C, hzl, hzl, hzl, ?_, ⟨by omega, by omega, by omega, by omega⟩, wf3, b3.trans (b2.trans b1), by omega, fun b h => (k3 b (by omega)).trans ((k2 b (by omega)).trans (k1 b h))⟩
    intro j hj
    have e : zs.getD j 0 = zeroV (ops.getD j 0) := by rw [hzs, hops]; simp [List.getD, show j < rs.length by omega]
    rw [e, join_zero _ _ ?_ (zero_ok _)]
    rw [List.all_eq_true] at hall
    have := hall rs[j] (List.getElem_mem (by omega))
    rw [hops]; simpa [List.getD, show j < rs.length by omega] using this
  rw [e0, e1]
  rw [e0] at T1 T2 T3
  simp [L6, hl, hr]
  refine goT_of T1 ?_
  simp
  refine goT_of T2 ?_
  simp
  refine goT_of T3 ?_
  simp [fitsNil, isNil]
  rw [← e0, ← e1]
  refine loop_at (Inv1 H3 x0 x1 x2 p1 p2 p3 rs) rs.length ?_ ?_
  · exact ⟨0, .slice none 0 0, by omega, by simp [e0], by simp [e1], by simp [e2], by simp, by simp, by simp, by simp, by simp, by simpa [ci] using Og.refl wf3 (Own.nil _ _ _)⟩
  · rintro k t G1 ⟨i, y, hik, t0, t1, t2, t7, t9, t11, t13, t14, gy⟩
    cases k with
    | succ k =>
      have hi : i < rs.length := by omega
      obtain ⟨b, off, c, hx, l1, l2⟩ := (r3.keep wf3 gy.base (Og.olds gy)).at hi
      have e3 : IntKind.i64.wrap ((i : Int) + 1) = ((i + 1 : Nat) : Int) := by rw [w64 _ (by omega)]; omega
      obtain ⟨i1, hi1⟩ : ∃ i1, i1 = i + 1 := ⟨_, rfl⟩
      rw [← hi1] at e3
      obtain ⟨HA, ap, aA⟩ := Og.push gy.wf gy.own (iv rs[i].2) (bytes := 8) (c := 0) (by omega)
      obtain ⟨y2, hy2⟩ : ∃ y2 : Addr, y2 = ⟨G1.next + 1, 0, none⟩ := ⟨_, rfl⟩
      rw [← hy2] at ap aA
      simp [L6_1, t0, t13, t14, hx, hi, l2, zerosA, ap, e3]
      refine ⟨k, Nat.lt_succ_self k, i1, .slice (some y2) (i + 1) 0, by omega, by simp [t0, hx], by simp [t1], by simp [t2], by simp [t7], by simp [t9], by simp [t11], by simp, by simp, ?_⟩
      show Og H3 HA _ _ _ _ _
      rw [hi1, List.take_succ_eq_append_getElem hi, List.map_append, ci_append]
      exact gy.trans aA
    | zero =>
      have ei : i = rs.length := by omega
      subst ei
      rw [List.take_length] at gy
      obtain ⟨ahead, hah⟩ : ∃ ahead, ahead = rs.map (·.2) := ⟨_, rfl⟩
      have hal : ahead.length = rs.length := by rw [hah]; simp
      rw [← hah, ← hal] at gy
      have S1 := S0.beside gy.base gy.next gy.wf (Og.olds gy)
      have yb : ∀ b, blkOf y = some b → H3.next ≤ b := fun b hb => by
        rcases gy.old b hb with h | h
        · cases h
        · exact h
      simp [L6_1, t0, t14, e0]
      refine loop_at (Inv2 H x1 x2 y H1.next H2.next H3.next p1 p2 p3 ops ahead l.length) l.length ?_ ?_
      · exact ⟨0, by omega, by simp [t1], by simp [t2], by simp [t7], by simp [t9], by simp [t11], by simp [t13], by simp, yb, gy.own, _, _, _, _, _, _, _, _, _, _, _, _, S1⟩
      · rintro k t G2 ⟨i, hik, t1, t2, t7, t9, t11, t13, t15, yb, oy, nA, nB, nC, mA, mB, mC, o1, w1, o2, w2, o3, w3, S⟩
        cases k with
        | succ k =>
          have hi : i < l.length := by omega
          have e3 : IntKind.i64.wrap ((i : Int) + 1) = ((i + 1 : Nat) : Int) := by rw [w64 _ (by omega)]; omega
          obtain ⟨i1, hi1⟩ : ∃ i1, i1 = i + 1 := ⟨_, rfl⟩
          rw [← hi1] at e3
          obtain ⟨b, off, c, hx, la, lb⟩ := (h1.keep hw S.base S.old).at hi
          obtain ⟨ax, cx, ex⟩ := h2.len
          by_cases hwi : i < ws.length
          · cases hwb : ws[i] with
            | true =>
              obtain ⟨va, vb, Hc, H', Ta, Tb, bc, oc, nn, ko, nB', nC', mB', mC', S'⟩ := S.stepB (by omega) (by omega) l[i].1 l[i].2
              obtain ⟨b', off', c', hx', la', lb'⟩ := (h1.keep hw bc oc).at hi
              rw [hx] at hx'
              simp only [Value.slice.injEq, Option.some.injEq, Addr.mk.injEq, and_true, true_and] at hx'
              obtain ⟨⟨rfl, rfl⟩, rfl⟩ := hx'
              obtain ⟨b3, off3, c3, hx3, l3⟩ := (h2.keep hw bc oc).at hwi
              rw [hwb] at l3
              simp [L6_2, t1, t2, t7, t9, t11, t15, hx, hi, la, lb]
              refine goT_of Ta ?_
              simp [t1, t2, t9, t15, hx, hx3, hi, hwi, l3, la', lb']
              refine goT_of Tb ?_
              simp [t15, e3]
              exact ⟨k, Nat.lt_succ_self k, i1, by omega, by simp [t1, hx], by simp [t2, hx3], by simp [t7], by simp [t9], by simp [t11], by simp [t13], by simp, yb, oy.keep (B_eq (S'.base.trans S.base.symm)) (fun b hb => ko b (yb b hb)), _, _, _, _, _, _, _, _, _, _, _, _, by rw [hi1]; exact S'⟩
            | false =>
              obtain ⟨va, vb, Hc, H', Ta, Tb, bc, oc, nn, ko, nA', nC', mA', mC', S'⟩ := S.stepA (by omega) (by omega) l[i].1 l[i].2
              obtain ⟨b', off', c', hx', la', lb'⟩ := (h1.keep hw bc oc).at hi
              rw [hx] at hx'
              simp only [Value.slice.injEq, Option.some.injEq, Addr.mk.injEq, and_true, true_and] at hx'
              obtain ⟨⟨rfl, rfl⟩, rfl⟩ := hx'
              obtain ⟨b3, off3, c3, hx3, l3⟩ := (h2.keep hw bc oc).at hwi
              rw [hwb] at l3
              simp [L6_2, t1, t2, t7, t9, t11, t15, hx, hi, la, lb]
              refine goT_of Ta ?_
              simp [t1, t2, t7, t15, hx, hx3, hi, hwi, l3, la', lb']
              refine goT_of Tb ?_
              simp [t15, e3]
              exact ⟨k, Nat.lt_succ_self k, i1, by omega, by simp [t1, hx], by simp [t2, hx3], by simp [t7], by simp [t9], by simp [t11], by simp [t13], by simp, yb, oy.keep (B_eq (S'.base.trans S.base.symm)) (fun b hb => ko b (yb b hb)), _, _, _, _, _, _, _, _, _, _, _, _, by rw [hi1]; exact S'⟩
          · obtain ⟨va, vb, Hc, H', Ta, Tb, bc, oc, nn, ko, nA', nC', mA', mC', S'⟩ := S.stepA (by omega) (by omega) l[i].1 l[i].2
            obtain ⟨b', off', c', hx', la', lb'⟩ := (h1.keep hw bc oc).at hi
            rw [hx] at hx'
            simp only [Value.slice.injEq, Option.some.injEq, Addr.mk.injEq, and_true, true_and] at hx'
            obtain ⟨⟨rfl, rfl⟩, rfl⟩ := hx'
            simp [L6_2, t1, t2, t7, t9, t11, t15, hx, hi, la, lb]
            refine goT_of Ta ?_
            simp [t1, t2, t7, t15, hx, e2, hi, hwi, la', lb']
            refine goT_of Tb ?_
            simp [t15, e3]
            exact ⟨k, Nat.lt_succ_self k, i1, by omega, by simp [t1, hx], by simp [t2, e2], by simp [t7], by simp [t9], by simp [t11], by simp [t13], by simp, yb, oy.keep (B_eq (S'.base.trans S.base.symm)) (fun b hb => ko b (yb b hb)), _, _, _, _, _, _, _, _, _, _, _, _, by rw [hi1]; exact S'⟩
        | zero =>
          have ei : i = l.length := by omega
          subst ei
          have n0 := S.n0
          obtain ⟨ya, hya⟩ := oy.len
          have hlA := S.lA
          have hlB := S.lB
          have hlC := S.lC
          have iy := oy.ints
          obtain ⟨v4, H4, T4, q4⟩ := onto_T S.wf S.C S.lC (by omega) (by omega) iy (by omega)
          unfold OntoQ at q4
          rw [if_pos (by omega)] at q4
          obtain ⟨y4, rfl, g4⟩ := q4
          have S4 := S.beside g4.base g4.next g4.wf (Og.olds g4)
          have n04 := S4.n0
          have iy4 := iy.keep S.wf g4.base (Og.olds g4)
          obtain ⟨v5, H5, T5, q5⟩ := onto_T S4.wf S4.B S.lB (by omega) (by omega) iy4 (by omega)
          unfold OntoQ at q5
          rw [if_pos (by omega)] at q5
          obtain ⟨y5, rfl, g5⟩ := q5
          have S5 := S4.beside g5.base g5.next g5.wf (Og.olds g5)
          have n05 := S5.n0
          have i5 : Ints H5 .i64 y5 (ontoN ops ahead nB ops.length) := g5.own.ints
          obtain ⟨v6, H6, T6, q6⟩ := onto_T S5.wf S5.A S.lA (by omega) (by omega) i5 (by rw [ontoN_len]; omega)
          unfold OntoQ at q6
          rw [if_pos (by rw [ontoN_len]; omega)] at q6
          obtain ⟨y6, rfl, g6⟩ := q6
          have S6 := S5.beside g6.base g6.next g6.wf (Og.olds g6)
          have i6 : Ints H6 .i64 y6 (ontoN ops (ontoN ops ahead nB ops.length) nA ops.length) := g6.own.ints
          rw [S.tog.onto ahead] at i6
          have i4 : Ints H4 .i64 y4 (ontoN ops ahead nC ops.length) := g4.own.ints
          have i4' := (i4.keep S4.wf g5.base (Og.olds g5)).keep S5.wf g6.base (Og.olds g6)
          have T7 := row_T i4' i6 (by rw [ontoN_len]; omega)
          simp only [decide_true] at T7
          have cnt := S.cnt
          have e8 : IntKind.i64.wrap (mA + mB) = mC := by rw [w64 _ (by omega)]; exact cnt.1
          obtain ⟨v8, H8, T8, rfl⟩ := alive_T S6.wf
          simp [L6_2, t1, t15, e1]
          refine goT_of (by rw [t11, t13]; exact T4) ?_
          simp [t9, t13]
          refine goT_of T5 ?_
          simp [t7]
          refine goT_of T6 ?_
          simp
          refine goT_of T7 ?_
          simp [t7]
          refine goT_of (len_T S6.A) ?_
          simp [t9]
          refine goT_of (len_T S6.B) ?_
          simp [t11, e8]
          refine goT_of (len_T S6.C) ?_
          simp
          refine goT_of T8 ?_
          simp
theorem rd_two {H : Heap} {n : Nat} {t : TypeId} {fs : Array Field} {f0 f1 : Field} (ht : Try.prog.underlying t = some (.struct fs)) (hc : Try.prog.cellsOf t = 2) (h0 : fs[0]? = some f0) (h1 : fs[1]? = some f1) (o0 : f0.offset = 0) (o1 : f1.offset = 1)
    (u0 : Try.prog.underlying f0.type = some (.int .i64)) (u1 : Try.prog.underlying f1.type = some (.int .i64)) (c0 : Try.prog.cellsOf f0.type = 1) (c1 : Try.prog.cellsOf f1.type = 1) (ds : List Value) (h : Rd Try.prog H (n + 1) t ds) :
    ∃ a : Int × Int, ds = [iv a.1, iv a.2] := by
  have hl : ds.length = 2 := (rd_len ht h).trans hc
  match ds, hl with
  | [w0, w1], _ =>
    have g0 := rd_field ht h 0 h0 c0
    have g1 := rd_field ht h 1 h1 c1
    rw [o0] at g0
    rw [o1] at g1
    obtain ⟨a, e0, _⟩ := rd_int u0 g0
    obtain ⟨b, e1, _⟩ := rd_int u1 g1
    simp at e0 e1
    subst e0 e1
    exact ⟨(a, b), rfl⟩
theorem twos_of {H : Heap} {n : Nat} {t e : TypeId} (ht : Try.prog.underlying t = some (.slice e)) (hc : Try.prog.cellsOf e = 2) (hR : ∀ ds, Rd Try.prog H n e ds → ∃ a : Int × Int, ds = [iv a.1, iv a.2]) {x : Value} (h : Rd Try.prog H (n + 1) t [x]) : ∃ l, Twos H x l := by
  rcases rd_slice ht h hc with rfl | ⟨b, off, k, c, rfl, _, h⟩
  · exact ⟨[], .inl ⟨rfl, rfl⟩⟩
  · obtain ⟨l, hl, h⟩ := rd_all hR h
    refine ⟨l, .inr ⟨b, off, c, by rw [hl], fun i hi => ?_⟩⟩
    obtain ⟨_, ds, _, h3, h4⟩ := h i hi
    subst h4
    exact ⟨h3 0 (by simp), h3 1 (by simp)⟩
theorem bools_of {H : Heap} {n : Nat} {t e : TypeId} (ht : Try.prog.underlying t = some (.slice e)) (he : Try.prog.underlying e = some .bool) (hc : Try.prog.cellsOf e = 1) {x : Value} (h : Rd Try.prog H (n + 1) t [x]) : ∃ l, Bools H x l := by
  rcases rd_slice ht h hc with rfl | ⟨b, off, k, c, rfl, _, h⟩
  · exact ⟨[], .inl ⟨rfl, rfl⟩⟩
  · obtain ⟨l, hl, h⟩ := rd_all (Q := fun a ds => ds = [.bool a]) (fun ds h => rd_bool he h) h
    refine ⟨l, .inr ⟨b, off, c, by rw [hl], fun i hi => ?_⟩⟩
    obtain ⟨_, ds, _, h3, h4⟩ := h i hi
    subst h4
    have := h3 0 (by simp)
    simpa using this
theorem splits_U {H : Heap} (hw : H.WF) {x0 x1 x2 : Value} (h0 : Rd Try.prog H 4 35 [x0]) (h1 : Rd Try.prog H 4 36 [x1]) (h2 : Rd Try.prog H 4 37 [x2]) : ∃ v H', T Try.prog 6 [x0, x1, x2] H v H' ∧ v = .bool true := by
  have c3 : Try.prog.cellsOf 3 = 1 := by kernel_rfl
  obtain ⟨rs, t0⟩ := twos_of Try.underlying35 (by kernel_rfl) (fun ds h => rd_two Try.underlying43 (by kernel_rfl) rfl rfl rfl rfl Try.underlying22 Try.underlying2 c1_22 c1_2 ds h) h0
  obtain ⟨l, t1⟩ := twos_of Try.underlying36 (by kernel_rfl) (fun ds h => rd_two Try.underlying46 (by kernel_rfl) rfl rfl rfl rfl Try.underlying3 Try.underlying2 c3 c1_2 ds h) h1
  obtain ⟨ws, t2⟩ := bools_of Try.underlying37 Try.underlying4 (by kernel_rfl) h2
  exact splits_T hw t0 t1 t2
end Go.Proofs.Ytbocmkjcpjfecaa
