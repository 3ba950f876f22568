/-
  RedSplits: three heaps beside one another.
-/
import Derived.Test.YtbocmkjcpjfecaaSeatJ
namespace Go.Proofs.Ytbocmkjcpjfecaa
open Go.Ot Go.ChangeShapes Go.WideShapes Go.ChangeAt Go.RowKit
set_option linter.unusedSimpArgs false
set_option linter.unusedVariables false
def InvW (H : Heap) (x y : Value) (a b : List Int) (k : Nat) (t : Tm) (H1 : Heap) : Prop :=
  ∃ i, i + k = a.length ∧ t 0 = x ∧ t 1 = y ∧ t 5 = iv (i : Nat) ∧ H1 = H ∧ a.take i = b.take i
theorem row_T {H : Heap} {x y : Value} {a b : List Int} (hx : Ints H .i64 x a) (hy : Ints H .i64 y b) (hl : a.length ≤ 1000000) : T Try.prog 19 [x, y] H (.bool (decide (a = b))) H := by
  refine T_eq hm light19 ?_
  obtain ⟨xa, xc, hxl⟩ := hx.len
  obtain ⟨ya, yc, hyl⟩ := hy.len
  by_cases hlen : a.length = b.length
  · rw [hxl, hyl]
    simp [L19, hlen]
    rw [← hyl, ← hlen, ← hxl]
    refine loop_at (InvW H x y a b) a.length ?_ ?_
    · exact ⟨0, by omega, by simp, by simp, by simp, rfl, by simp⟩
    · rintro k t H1 ⟨i, hik, t0, t1, t5, rfl, heq⟩
      cases k with
      | zero =>
        have e0 : i = a.length := by omega
        subst e0
        have e1 : a = b := by rw [hlen, List.take_length, ← hlen, List.take_length] at heq; exact heq
        rw [hxl] at t0
        simp [L19_1, t0, t5, e1]
      | succ k =>
        have hi : i < a.length := by omega
        have hi2 : i < b.length := by omega
        obtain ⟨b1, o1, c1, hx1, l1⟩ := hx.at hi
        obtain ⟨b2, o2, c2, hy1, l2⟩ := hy.at hi2
        have e3 : IntKind.i64.wrap ((i : Int) + 1) = ((i + 1 : Nat) : Int) := by rw [w64 _ (by omega)]; omega
        obtain ⟨i1, hi1⟩ : ∃ i1, i1 = i + 1 := ⟨_, rfl⟩
        rw [← hi1] at e3
        by_cases he : a[i] = b[i]
        · simp [L19_1, t0, t1, t5, hx1, hy1, hi, hi2, l1, l2, he, e3]
          refine ⟨k, Nat.lt_succ_self k, i1, by omega, by simp [t0, hx1], by simp [t1, hy1], by simp, rfl, ?_⟩
          rw [hi1, List.take_succ_eq_append_getElem hi, List.take_succ_eq_append_getElem hi2, heq, he]
        · have hne : a ≠ b := fun h => he (by subst h; rfl)
          have he2 : (a[i] != b[i]) = true := bne_iff_ne.2 he
          simp [L19_1, t0, t1, t5, hx1, hy1, hi, hi2, l1, l2, he2, hne]
  · have hne : a ≠ b := fun h => hlen (by rw [h])
    rw [hxl, hyl]
    simp [L19, hlen, hne]
theorem addN_len (ops now : List Int) (c n : Int) : (addN ops now c n).length = now.length := by unfold addN; split <;> simp
theorem addN_get (ops now : List Int) (c n : Int) (hl : now.length = ops.length) (j : Nat) :
    (addN ops now c n).getD j 0 = if may ops c = true ∧ j = c.toNat then joinV (ops.getD j 0) (now.getD j 0) n else now.getD j 0 := by
  unfold addN
  by_cases hm : may ops c = true
  · have hc : c.toNat < now.length := by simp [may] at hm; omega
    rw [if_pos hm]
    by_cases hj : j = c.toNat
    · subst hj; simp [hm, List.getD, List.getElem?_set, hc]
    · rw [if_neg (by simp [hj])]
      simp [List.getD, List.getElem?_set, Ne.symm hj]
  · rw [if_neg hm, if_neg (by simp [hm])]
/-- What is in c is what is in b and in a together. -/
def Tog (ops nA nB nC : List Int) : Prop := ∀ j, j < ops.length → nC.getD j 0 = joinV (ops.getD j 0) (nB.getD j 0) (nA.getD j 0)
theorem Tog.addB {ops nA nB nC : List Int} (h : Tog ops nA nB nC) (lB : nB.length = ops.length) (lC : nC.length = ops.length) (c n : Int) : Tog ops nA (addN ops nB c n) (addN ops nC c n) := by
  intro j hj
  rw [addN_get _ _ _ _ lB, addN_get _ _ _ _ lC, h j hj]
  split
  · rw [join_assoc, join_assoc, join_comm _ _ n]
  · rfl
theorem Tog.addA {ops nA nB nC : List Int} (h : Tog ops nA nB nC) (lA : nA.length = ops.length) (lC : nC.length = ops.length) (c n : Int) : Tog ops (addN ops nA c n) nB (addN ops nC c n) := by
  intro j hj
  rw [addN_get _ _ _ _ lA, addN_get _ _ _ _ lC, h j hj]
  split
  · rw [join_assoc]
  · rfl
theorem Tog.onto {ops nA nB nC : List Int} (h : Tog ops nA nB nC) (ahead : List Int) : ontoN ops (ontoN ops ahead nB ops.length) nA ops.length = ontoN ops ahead nC ops.length := by
  refine List.map_congr_left fun j hj => ?_
  have hj' : j < ops.length := by simpa using hj
  have e : (ontoN ops ahead nB ops.length).getD j 0 = joinV (ops.getD j 0) (ahead.getD j 0) (nB.getD j 0) := by
    simp [ontoN, List.getD, hj']
  rw [e, h j hj', join_assoc]
/-- Three heaps, beside one another, and a row of numbers. -/
structure ST (G H : Heap) (n1 n2 n3 p1 p2 p3 : Nat) (ops nA nB nC : List Int) (mA mB mC : Int) (o1 w1 o2 w2 o3 w3 : Value) (i : Nat) : Prop where
  A : HP H G.next n1 p1 ops nA mA o1 w1
  B : HP H n1 n2 p2 ops nB mB o2 w2
  C : HP H n2 n3 p3 ops nC mC o3 w3
  lA : nA.length = ops.length
  lB : nB.length = ops.length
  lC : nC.length = ops.length
  tog : Tog ops nA nB nC
  cnt : mA + mB = mC ∧ 0 ≤ mA ∧ 0 ≤ mB ∧ mC ≤ i
  wf : H.WF
  base : H.base = G.base
  n0 : G.next ≤ n1 ∧ n1 ≤ n2 ∧ n2 ≤ n3 ∧ n3 ≤ H.next
  old : ∀ b, b < G.next → H.blk b = G.blk b
theorem ST.beside {G H H' : Heap} {n1 n2 n3 p1 p2 p3 : Nat} {ops nA nB nC : List Int} {mA mB mC : Int} {o1 w1 o2 w2 o3 w3 : Value} {i : Nat} (s : ST G H n1 n2 n3 p1 p2 p3 ops nA nB nC mA mB mC o1 w1 o2 w2 o3 w3 i)
    (hb : H'.base = H.base) (hn : H.next ≤ H'.next) (hw : H'.WF) (hk : ∀ b, b < H.next → H'.blk b = H.blk b) : ST G H' n1 n2 n3 p1 p2 p3 ops nA nB nC mA mB mC o1 w1 o2 w2 o3 w3 i :=
  have n0 := s.n0
  ⟨s.A.frame hb (fun b _ h => hk b (by omega)), s.B.frame hb (fun b _ h => hk b (by omega)), s.C.frame hb (fun b _ h => hk b (by omega)), s.lA, s.lB, s.lC, s.tog, s.cnt, hw, hb.trans s.base, by omega, fun b h => (hk b (by omega)).trans (s.old b h)⟩
/-- A number goes into c and into b. -/
theorem ST.stepB {G H : Heap} {n1 n2 n3 p1 p2 p3 : Nat} {ops nA nB nC : List Int} {mA mB mC : Int} {o1 w1 o2 w2 o3 w3 : Value} {i : Nat} (s : ST G H n1 n2 n3 p1 p2 p3 ops nA nB nC mA mB mC o1 w1 o2 w2 o3 w3 i) (hol : ops.length ≤ 1000) (hi : i ≤ 1000) (c n : Int) :
    ∃ v1 v2 Hc H', T Try.prog 17 [ptr p3, iv c, iv n] H v1 Hc ∧ T Try.prog 17 [ptr p2, iv c, iv n] Hc v2 H' ∧ Hc.base = G.base ∧ (∀ b, b < G.next → Hc.blk b = G.blk b) ∧ H'.next = H.next ∧ (∀ b, n3 ≤ b → H'.blk b = H.blk b) ∧
      ∃ nB' nC' mB' mC', ST G H' n1 n2 n3 p1 p2 p3 ops nA nB' nC' mA mB' mC' o1 w1 o2 w2 o3 w3 (i + 1) := by
  have n0 := s.n0
  have cnt := s.cnt
  obtain ⟨v1, Hc, T1, rfl, wc, bc, nc, kc, Cc⟩ := add_T s.wf s.C s.lC c n ⟨by unfold okI; omega, by omega⟩ hol
  have Bc := s.B.frame bc (fun b _ h => kc b (by omega))
  obtain ⟨v2, H', T2, rfl, w', b', n', k', B'⟩ := add_T wc Bc s.lB c n ⟨by unfold okI; omega, by omega⟩ hol
  have C' := Cc.frame b' (fun b h1 h2 => k' b (by omega))
  have A' := (s.A.frame bc (fun b _ h => kc b (by omega))).frame b' (fun b _ h => k' b (by omega))
  refine ⟨_, _, Hc, H', T1, T2, bc.trans s.base, fun b h => (kc b (by omega)).trans (s.old b h), n'.trans nc, fun b h => (k' b (by omega)).trans (kc b (by omega)), _, _, _, _, A', B', C', s.lA, ?_, ?_, s.tog.addB s.lB s.lC c n, ?_, w', b'.trans (bc.trans s.base), by omega, fun b h => (k' b (by omega)).trans ((kc b (by omega)).trans (s.old b h))⟩
  · rw [addN_len]; exact s.lB
  · rw [addN_len]; exact s.lC
  · split <;> omega
/-- A number goes into c and into a. -/
theorem ST.stepA {G H : Heap} {n1 n2 n3 p1 p2 p3 : Nat} {ops nA nB nC : List Int} {mA mB mC : Int} {o1 w1 o2 w2 o3 w3 : Value} {i : Nat} (s : ST G H n1 n2 n3 p1 p2 p3 ops nA nB nC mA mB mC o1 w1 o2 w2 o3 w3 i) (hol : ops.length ≤ 1000) (hi : i ≤ 1000) (c n : Int) :
    ∃ v1 v2 Hc H', T Try.prog 17 [ptr p3, iv c, iv n] H v1 Hc ∧ T Try.prog 17 [ptr p1, iv c, iv n] Hc v2 H' ∧ Hc.base = G.base ∧ (∀ b, b < G.next → Hc.blk b = G.blk b) ∧ H'.next = H.next ∧ (∀ b, n3 ≤ b → H'.blk b = H.blk b) ∧
      ∃ nA' nC' mA' mC', ST G H' n1 n2 n3 p1 p2 p3 ops nA' nB nC' mA' mB mC' o1 w1 o2 w2 o3 w3 (i + 1) := by
  have n0 := s.n0
  have cnt := s.cnt
  obtain ⟨v1, Hc, T1, rfl, wc, bc, nc, kc, Cc⟩ := add_T s.wf s.C s.lC c n ⟨by unfold okI; omega, by omega⟩ hol
  have Ac := s.A.frame bc (fun b _ h => kc b (by omega))
  obtain ⟨v2, H', T2, rfl, w', b', n', k', A'⟩ := add_T wc Ac s.lA c n ⟨by unfold okI; omega, by omega⟩ hol
  have C' := Cc.frame b' (fun b h1 h2 => k' b (by omega))
  have B' := (s.B.frame bc (fun b _ h => kc b (by omega))).frame b' (fun b _ h => k' b (by omega))
  refine ⟨_, _, Hc, H', T1, T2, bc.trans s.base, fun b h => (kc b (by omega)).trans (s.old b h), n'.trans nc, fun b h => (k' b (by omega)).trans (kc b (by omega)), _, _, _, _, A', B', C', ?_, s.lB, ?_, s.tog.addA s.lA s.lC c n, ?_, w', b'.trans (bc.trans s.base), by omega, fun b h => (k' b (by omega)).trans ((kc b (by omega)).trans (s.old b h))⟩
  · rw [addN_len]; exact s.lA
  · rw [addN_len]; exact s.lC
  · split <;> omega
end Go.Proofs.Ytbocmkjcpjfecaa
