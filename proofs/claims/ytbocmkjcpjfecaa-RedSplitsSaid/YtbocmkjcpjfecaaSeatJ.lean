/-
  RedFolds answers true at every operation and all numbers.
-/
import Derived.Test.YtbocmkjcpjfecaaSeatI
namespace Go.Proofs.Ytbocmkjcpjfecaa
open Go.Ot Go.ChangeShapes Go.WideShapes Go.ChangeAt Go.RowKit
set_option linter.unusedSimpArgs false
set_option linter.unusedVariables false
theorem fold_ok (op : Int) (l : List Int) (h : ∀ n ∈ l, okI n) : ∀ a, okI a → okI (l.foldl (joinV op) a) := by
  induction l with
  | nil => intro a ha; exact ha
  | cons b l ih => intro a ha; exact ih (fun n hn => h n (by simp [hn])) _ (join_ok _ _ _ ha (h b (by simp)))
theorem zero_ok (op : Int) : okI (zeroV op) := by
  unfold zeroV okI
  split; decide
  split; decide
  split; decide
  split <;> decide
def InvG (H : Heap) (op : Int) (x : Value) (l : List Int) (k : Nat) (t : Tm) (H1 : Heap) : Prop :=
  ∃ i a, i + k = l.length ∧ t 0 = iv op ∧ t 5 = iv a ∧ t 1 = x ∧ t 6 = iv i ∧ okI a ∧ (l.drop i).foldl (joinV op) a = foldV op l ∧ H1.WF ∧ H1.base = H.base ∧ H.next ≤ H1.next ∧ Same H H1 []
theorem foldR_T {H : Heap} (hw : H.WF) (op : Int) {x : Value} {l : List Int} (hx : Ints H .i64 x l) (hn : ∀ n ∈ l, okI n) (hl : l.length ≤ 1000000) : ∃ v H', T Try.prog 15 [iv op, x] H v H' ∧ v = iv (foldV op l) ∧ Same H H' [] := by
  refine T_by hm light15 ?_
  obtain ⟨xa, xc, hxl⟩ := hx.len
  obtain ⟨v1, H1, T1, rfl, s1⟩ := zeroR_T hw op
  simp [L15]
  refine goT_of T1 ?_
  simp
  refine loop_at (InvG H op x l) l.length ?_ ?_
  · exact ⟨0, zeroV op, by omega, by simp, by simp, by simp, by simp, zero_ok op, rfl, T1.grow.wf hw, T1.1, T1.grow.next, s1⟩
  · rintro k t H1 ⟨i, a, hik, t0, t5, t1, t6, ha, hf, w1, b1, n1, s1⟩
    cases k with
    | zero =>
      have e0 : i = l.length := by omega
      subst e0
      simp at hf
      rw [hxl] at t1
      simp [L15_1, t5, t1, t6, hf]
      exact s1
    | succ k =>
      have hi : i < l.length := by omega
      obtain ⟨b, off, c, hxs, l1⟩ := (hx.keep hw b1 (fun b hb => s1 b hb (by simp))).at hi
      have e3 : IntKind.i64.wrap ((i : Int) + 1) = ((i + 1 : Nat) : Int) := by rw [w64 _ (by omega)]; omega
      obtain ⟨i1, hi1⟩ : ∃ i1, i1 = i + 1 := ⟨_, rfl⟩
      rw [← hi1] at e3
      obtain ⟨v2, H2, T2, rfl, s2⟩ := joinR_T w1 op a l[i] ha (hn _ (List.getElem_mem hi))
      simp [L15_1, t0, t5, t1, t6, hxs, hi, l1]
      refine goT_of T2 ?_
      simp [t6, e3]
      refine ⟨k, Nat.lt_succ_self k, i1, joinV op a l[i], by omega, by simp [t0], by simp, by simp [t1, hxs], by simp, join_ok _ _ _ ha (hn _ (List.getElem_mem hi)), ?_, T2.grow.wf w1, T2.1.trans b1, Nat.le_trans n1 T2.grow.next, s1.next n1 s2 (by simp)⟩
      rw [← hf, List.drop_eq_getElem_cons hi, hi1]; rfl
theorem fold_turn (op : Int) (a b : List Int) (z : Int) : (a ++ b).foldl (joinV op) z = (b ++ a).foldl (joinV op) z := by
  refine List.Perm.foldl_eq' List.perm_append_comm ?_ z
  intro x _ y _ c
  rw [join_assoc, join_assoc, join_comm op x y]
theorem folds_T {H : Heap} (hw : H.WF) {op : Int} (ho : okI op) {x : Value} {l : List Int} (hx : IntsB H .i64 x l) (hwf : ∀ n ∈ l, (Lit.int .i64 n).wf = true) {at' : Int} (hat : okI at') : ∃ v H', T Try.prog 5 [iv op, x, iv at'] H v H' ∧ v = .bool true := by
  have hn : ∀ n ∈ l, okI n := fun n h => bounds_i64 (hwf n h)
  have hxi : Ints H .i64 x l := by
    rcases hx with h | ⟨b, off, c, h1, _, h2⟩
    · exact .inl h
    · exact .inr ⟨b, off, c, h1, h2⟩
  refine T_by hm light5 ?_
  obtain ⟨xa, xc, hxl⟩ := hxi.len
  by_cases h5 : 500 < l.length
  · rw [hxl]; simp [L5, h5]
  have T1 := fold_T (H := H) op hxi (by omega)
  obtain ⟨v2, H2, T2, rfl, s2⟩ := foldR_T hw op hxi hn (by omega)
  have w2 := T2.grow.wf hw
  have x2 := hxi.keep hw T2.1 (fun b hb => s2 b hb (by simp))
  unfold okI at hat
  obtain ⟨n, hn'⟩ : ∃ n : Nat, n = l.length + 1 := ⟨_, rfl⟩
  have e1 : IntKind.i64.wrap ((l.length : Int) + 1) = (n : Int) := by rw [w64 _ (by omega), hn']; omega
  have hqb1 := Int.tmod_lt_of_pos at' (show (0 : Int) < n by omega)
  have hqb2 := Int.lt_tmod_of_pos at' (show (0 : Int) < n by omega)
  have r1 : sBin .rem (iv at') (iv n) = some (iv (at'.tmod n)) := by rw [sBin_rem, if_neg (by omega)]
  obtain ⟨q, hq⟩ : ∃ q, q = at'.tmod n := ⟨_, rfl⟩
  rw [← hq] at r1 hqb1 hqb2
  obtain ⟨s, hs⟩ : ∃ s : Nat, (s : Int) = q + n := ⟨(q + n).toNat, by omega⟩
  have e2 : IntKind.i64.wrap (q + (l.length : Int)) = q + l.length := w64 _ (by omega)
  have e3 : IntKind.i64.wrap (q + (l.length : Int) + 1) = (s : Int) := by rw [w64 _ (by omega)]; omega
  obtain ⟨k, hk⟩ : ∃ k, k = s % n := ⟨_, rfl⟩
  have r2 : sBin .rem (iv s) (iv n) = some (iv k) := by rw [hk]; exact rem_nat .i64 s n (by omega)
  have hkl : k ≤ l.length := by
    have := Nat.mod_lt s (show 0 < n by omega)
    omega
  obtain ⟨y1, c1, i1⟩ := x2.from k hkl
  obtain ⟨a3, H3, ap3, g3⟩ := Og.pour w2 (Own.nil H2 2 1) i1.src (by simp) (bytes := 8) (by simp; omega)
  have x3 := x2.keep w2 g3.base (Og.olds g3)
  obtain ⟨y2, c2, i2⟩ := x3.upto k hkl
  obtain ⟨a4, H4, ap4, g4⟩ := Og.pour g3.wf g3.own i2.src (by simp) (bytes := 8) (by simp; omega)
  have g4' : Own H4 2 1 (0 + (l.drop k).length + (l.take k).length) ((l.drop k ++ l.take k).map (.int .i64)) (.slice a4 (0 + (l.drop k).length + (l.take k).length) 0) := by
    have := g4.own
    rw [List.nil_append, ← List.map_append] at this
    exact this
  have T5 := fold_T (H := H4) op g4'.ints (by simp; omega)
  have e5 : foldV op (l.drop k ++ l.take k) = foldV op l := by
    unfold foldV
    rw [fold_turn, List.take_append_drop]
  rw [e5] at T5
  obtain ⟨v6, H6, T6, rfl⟩ := alive_T g4.wf
  obtain ⟨m3, hm3⟩ : ∃ m, m = 0 + (l.drop k).length := ⟨_, rfl⟩
  obtain ⟨m4, hm4⟩ : ∃ m, m = m3 + (l.take k).length := ⟨_, rfl⟩
  rw [← hm3] at ap3 ap4 T5
  rw [← hm4] at ap4 T5
  rw [hxl] at T1 T2 c1 c2
  rw [hxl]
  simp [L5, h5]
  refine goT_of T1 ?_
  simp
  refine goT_of T2 ?_
  simp [e1, r1, e2, e3, r2, c1, ap3, c2, ap4]
  refine goT_of T5 ?_
  simp
  refine goT_of T6 ?_
  simp
end Go.Proofs.Ytbocmkjcpjfecaa
