/-
  Chapter 23: the document's rows: is a number in one, one sorted; two rows compared.
-/
import Derived.Test.YtadegahkgpedgaaSeatQ
namespace Go.Proofs.Ytadegahkgpedgaa
open Go.Ot Go.RowKit
set_option linter.unusedSimpArgs false
set_option linter.unusedVariables false
def InvIn (H : Heap) (x : Value) (n : Int) (l : List Int) (k : Nat) (t : Tm) (H1 : Heap) : Prop :=
  ∃ i, i + k = l.length ∧ t 0 = x ∧ t 1 = iv n ∧ t 5 = iv i ∧ (∀ q (h : q < l.length), q < i → l[q] ≠ n) ∧ H1 = H
theorem in_T {H : Heap} {x : Value} {l : List Int} (h : Ints H .i64 x l) (n : Int) (hl : l.length ≤ 1000000) : T Try.prog 30 [x, iv n] H (.bool (decide (n ∈ l))) H := by
  refine T_eq hm light30 ?_
  obtain ⟨a, c, hx⟩ := h.len
  simp [L30]
  refine loop_at (InvIn H x n l) l.length ?_ ?_
  · exact ⟨0, by omega, by simp, by simp, by simp, fun q _ h => absurd h (by omega), rfl⟩
  · rintro k t H1 ⟨i, hik, t0, t1, t5, hno, rfl⟩
    cases k with
    | zero =>
      have e1 : ¬ ((i : Int) < l.length) := by omega
      have hnm : n ∉ l := by
        intro hm'
        obtain ⟨q, hq, he⟩ := List.getElem_of_mem hm'
        exact hno q hq (by omega) he
      rw [hx] at t0
      simp [L30_1, t0, t5, e1, hnm]
    | succ k =>
      have hil : i < l.length := by omega
      have e1 : ((i : Int) < l.length) := by omega
      obtain ⟨b, off, c2, hxe, hld⟩ := h.at hil
      have e4 : IntKind.i64.wrap ((i : Int) + 1) = ((i + 1 : Nat) : Int) := by rw [w64 _ (by omega)]; omega
      obtain ⟨iN, hiN⟩ : ∃ n : Nat, n = i + 1 := ⟨_, rfl⟩
      rw [← hiN] at e4
      by_cases he : l[i] = n
      · have hb : (l[i] == n) = true := by simpa using he
        have hmem : n ∈ l := by rw [← he]; exact List.getElem_mem hil
        rw [hxe] at t0
        simp [L30_1, t0, t5, e1, hld, t1, hb, hmem]
      · have hb : (l[i] == n) = false := by simpa using he
        have t0' := t0
        rw [hxe] at t0
        simp [L30_1, t0, t5, e1, hld, t1, hb, e4]
        refine ⟨k, by omega, iN, by omega, by simp [t0'], by simp [t1], by simp, ?_, rfl⟩
        intro q hq hqi
        by_cases e : q = i
        · subst e; exact he
        · exact hno q hq (by omega)

theorem Row.at {H H1 : Heap} {X : List Int} {o : Value} (h : Row H H1 3 1 X.length (X.map iv) o) {i : Nat} (hi : i < X.length) :
    ∃ b, o = .slice (some ⟨b, 0, none⟩) X.length 0 ∧ H1.load ⟨b, i, none⟩ = some (iv X[i]) := by
  rcases h.own.2 with ⟨_, h0⟩ | ⟨b, rest, hy, hB, hk⟩
  · omega
  · refine ⟨b, hy, ?_⟩
    rw [load_at hB hk]
    simp [List.getElem?_append_left, hi]
theorem Row.setAt {H H1 : Heap} {X : List Int} {o : Value} {b : Nat} (h : Row H H1 3 1 X.length (X.map iv) o) (ho : o = .slice (some ⟨b, 0, none⟩) X.length 0) {i : Nat} (hi : i < X.length) (v : Int) :
    ∃ H2, H1.store ⟨b, i, none⟩ (iv v) = some H2 ∧ Row H H2 3 1 (X.set i v).length ((X.set i v).map iv) o := by
  rcases h.own.2 with ⟨_, h0⟩ | ⟨b', rest, hy, hB, hk⟩
  · omega
  · rw [ho] at hy
    simp at hy
    subst hy
    refine ⟨H1.put b ((X.set i v).map iv ++ rest), ?_, ?_⟩
    · rw [store_own hB hk, if_pos (by simp; omega), List.set_append_left _ _ (by simpa using hi), List.map_set]
    · have hn := h.new b (by rw [ho]; rfl)
      refine ⟨⟨by simp, .inr ⟨b, rest, by rw [ho]; simp, hB, by simp [hk]⟩⟩, WF_put h.wf _ _, h.base, h.next, h.new, fun c hc => ?_⟩
      have : c ≠ b := by omega
      simp [this, h.keep c hc]
/-- The row of one more, put where it belongs. -/
theorem set_swap (P : List Int) (u v : Int) (Q : List Int) : ((P ++ u :: v :: Q).set (P.length + 1) u).set P.length v = P ++ v :: u :: Q := by
  induction P with
  | nil => simp
  | cons a P ih => simp [ih]
def InvSi (H : Heap) (t0 : Tm) (P0 : List Int) (v : Int) (k : Nat) (t : Tm) (H1 : Heap) : Prop :=
  ∃ P Q o, P.length = k ∧ P ++ Q = P0 ∧ (∀ x ∈ Q, v < x) ∧ t 0 = t0 0 ∧ t 4 = t0 4 ∧ t 3 = o ∧ t 5 = iv k ∧ Row H H1 3 1 (P ++ v :: Q).length ((P ++ v :: Q).map iv) o
theorem sift_T {H H1 : Heap} {P0 : List Int} {v : Int} {o : Value} (hr : Row H H1 3 1 (P0 ++ [v]).length ((P0 ++ [v]).map iv) o) (hinc : P0.Pairwise (· < ·)) (hv : v ∉ P0) (hl : P0.length ≤ 100000) {Q : Exit → Tm → Heap → Prop} {t : Tm}
    (t3 : t 3 = o) (t5 : t 5 = iv P0.length)
    (hQ : ∀ t9 H9 (X : List Int) o9, t9 0 = t 0 → t9 4 = t 4 → t9 3 = o9 → X.Pairwise (· < ·) → X.Perm (v :: P0) → Row H H9 3 1 X.length (X.map iv) o9 → Q (.exit 2) t9 (rdy H9)) : wpA Try.prog (.loop L29_1) Q t (rdy H1) := by
  refine loop_at (InvSi H t P0 v) P0.length ?_ ?_
  · exact ⟨P0, [], o, rfl, by simp, by simp, rfl, rfl, t3, t5, hr⟩
  · rintro k tt H2 ⟨P, QQ, o2, hPk, hPQ, hgt, u0, u4, u3, u5, row⟩
    have hsub := hPQ ▸ hinc
    have hlen : P.length + QQ.length = P0.length := by rw [← hPQ]; simp
    have fin : (∀ x ∈ P, x < v) → (P ++ v :: QQ).Pairwise (· < ·) := by
      intro hlt
      rw [List.pairwise_append] at hsub ⊢
      refine ⟨hsub.1, List.pairwise_cons.2 ⟨hgt, hsub.2.1⟩, fun a ha b hb => ?_⟩
      rcases List.mem_cons.1 hb with rfl | hb
      · exact hlt a ha
      · exact hsub.2.2 a ha b hb
    have hperm : (P ++ v :: QQ).Perm (v :: P0) := by rw [← hPQ]; exact List.perm_middle
    cases k with
    | zero =>
      have hP : P = [] := List.length_eq_zero_iff.1 hPk
      subst hP
      have hq := fun (t9 : Tm) (h0 : t9 0 = tt 0) (h4 : t9 4 = tt 4) (h3 : t9 3 = tt 3) => hQ t9 H2 _ o2 (h0.trans u0) (h4.trans u4) (h3.trans u3) (fin (by simp)) hperm row
      have u5' : tt 5 = iv 0 := u5
      simp [L29_1, u5']
      exact hq _ (by simp) (by simp) (by simp)
    | succ j =>
      obtain ⟨P', u, rfl⟩ : ∃ P' u, P = P' ++ [u] := ⟨P.dropLast, P.getLast (by intro h; rw [h] at hPk; simp at hPk), (List.dropLast_concat_getLast _).symm⟩
      have hj : P'.length = j := by simpa using hPk
      have hX : P' ++ [u] ++ v :: QQ = P' ++ u :: v :: QQ := by simp
      have huv : u ≠ v := by
        intro e
        apply hv
        rw [← hPQ, ← e]
        simp
      rw [hX] at row hperm fin
      have hXl : (P' ++ u :: v :: QQ).length = P0.length + 1 := by simp at hlen ⊢; omega
      obtain ⟨n, hn⟩ : ∃ n, n = (P' ++ u :: v :: QQ).length := ⟨_, rfl⟩
      obtain ⟨b, ho, ldv⟩ := row.at (i := j + 1) (by rw [hXl]; omega)
      obtain ⟨b', ho', ldu⟩ := row.at (i := j) (by rw [hXl]; omega)
      rw [ho] at ho'
      simp at ho'
      subst ho'
      have gv : (P' ++ u :: v :: QQ)[j + 1]'(by rw [hXl]; omega) = v := by
        rw [List.getElem_append_right (by omega)]
        simp [hj]
      have gu : (P' ++ u :: v :: QQ)[j]'(by rw [hXl]; omega) = u := by
        rw [List.getElem_append_right (by omega)]
        simp [hj]
      rw [gv] at ldv
      rw [gu] at ldu
      obtain ⟨j1, hj1⟩ : ∃ j1 : Nat, j1 = j + 1 := ⟨_, rfl⟩
      have c1 : IntKind.i64.wrap ((j1 : Int) - 1) = (j : Int) := by rw [w64 _ (by omega)]; omega
      rw [← hj1] at u5 ldv
      have hj1n : j1 < n := by omega
      have hjn : j < n := by omega
      have hj0 : 0 < j1 := by omega
      rw [← hn] at ho
      have u3' := u3
      rw [ho] at u3
      by_cases hlt : v < u
      · obtain ⟨H3, st3, row3⟩ := row.setAt (b := b) (i := j + 1) (by rw [← hn]; exact ho) (by rw [hXl]; omega) u
        have hl3 : ((P' ++ u :: v :: QQ).set (j + 1) u).length = n := by simp [hn]
        obtain ⟨H4, st4, row4⟩ := row3.setAt (b := b) (i := j) (by rw [hl3]; exact ho) (by rw [hl3]; exact hjn) v
        have hsw := set_swap P' u v QQ
        rw [hj] at hsw
        rw [hsw] at row4
        rw [← hj1] at st3
        simp [L29_1, u5, hj0, u3, hj1n, hjn, c1, ldv, ldu, hlt, st3, st4]
        refine ⟨j, by omega, P', u :: QQ, o2, hj, by rw [← hPQ]; simp, ?_, by simp [u0], by simp [u4], by simp [u3, ho], by simp, row4⟩
        intro x hx
        rcases List.mem_cons.1 hx with rfl | hx
        · exact hlt
        · exact hgt x hx
      · have hlast : ∀ x ∈ P' ++ [u], x < v := by
          intro x hx
          rcases List.mem_append.1 hx with h1 | h1
          · rw [List.pairwise_append] at hsub
            have := (List.pairwise_append.1 hsub.1).2.2 x h1 u (by simp)
            omega
          · rw [List.mem_singleton.1 h1]; omega
        have hq := fun (t9 : Tm) (h0 : t9 0 = tt 0) (h4 : t9 4 = tt 4) (h3 : t9 3 = tt 3) => hQ t9 H2 _ o2 (h0.trans u0) (h4.trans u4) (h3.trans u3') (fin hlast) hperm row
        simp [L29_1, u5, hj0, u3, hj1n, hjn, c1, ldv, ldu, hlt]
        exact hq _ (by simp) (by simp) (by simp)
/-- Rising, with the members of a list. -/
structure SortV (l X : List Int) : Prop where
  inc : X.Pairwise (· < ·)
  mem : ∀ a, a ∈ X ↔ a ∈ l
def InvSo (H : Heap) (y : Value) (l : List Int) (k : Nat) (t : Tm) (H1 : Heap) : Prop :=
  ∃ i X o, i + k = l.length ∧ t 0 = y ∧ t 4 = iv i ∧ t 3 = o ∧ X.length ≤ i ∧ SortV (l.take i) X ∧ Row H H1 3 1 X.length (X.map iv) o
theorem sorted_T {H : Heap} (hw : H.WF) {y : Value} {l : List Int} (hy : Ints H .i64 y l) (hl : l.length ≤ 90000) : ∃ o H', T Try.prog 29 [y] H o H' ∧ ∃ X, Row H H' 3 1 X.length (X.map iv) o ∧ SortV l X ∧ X.length ≤ l.length := by
  refine T_by hm light29 ?_
  obtain ⟨ay, cy, hyl⟩ := hy.len
  simp [L29]
  refine loop_at (InvSo H y l) l.length ?_ ?_
  · exact ⟨0, [], .slice none 0 0, by omega, by simp, by simp, by simp, by simp, ⟨List.Pairwise.nil, by simp⟩, Row.nil hw _ _⟩
  · rintro k t H1 ⟨i, X, o, hik, t0, t4, t3, hXi, sv, row⟩
    cases k with
    | zero =>
      have e1 : ¬ ((i : Int) < l.length) := by omega
      have e2 : i = l.length := by omega
      rw [e2, List.take_length] at sv
      obtain ⟨ao, ho⟩ := row.own.len
      rw [hyl] at t0
      have row' := row
      rw [ho] at t3 row'
      simp [L29_2, t4, t0, e1, t3]
      exact ⟨X, row', sv, by omega⟩
    | succ k =>
      have hil : i < l.length := by omega
      have e1 : ((i : Int) < l.length) := by omega
      have e4 : IntKind.i64.wrap ((i : Int) + 1) = ((i + 1 : Nat) : Int) := by rw [w64 _ (by omega)]; omega
      have hy1 := hy.keep hw row.base row.keep
      obtain ⟨b, off, c, hyb, ld⟩ := hy1.at hil
      have htk : l.take (i + 1) = l.take i ++ [l[i]] := by rw [List.take_add_one, List.getElem?_eq_getElem hil]; rfl
      obtain ⟨v, hv⟩ : ∃ v, v = l[i] := ⟨_, rfl⟩
      rw [← hv] at ld htk
      obtain ⟨iN, hiN⟩ : ∃ n : Nat, n = i + 1 := ⟨_, rfl⟩
      rw [← hiN] at e4 htk
      have hin := in_T (H := H1) row.own.ints v (by omega)
      have t0' := t0
      rw [hyb] at t0
      by_cases hmem : v ∈ X
      · rw [show decide (v ∈ X) = true by simpa using hmem] at hin
        simp [L29_2, t4, t0, e1, hil, ld]
        refine goT_of (by rw [t3]; exact hin) ?_
        simp [t4, e4]
        refine ⟨k, by omega, iN, X, o, by omega, by simp [t0'], by simp, by simp [t3], by omega, ⟨sv.inc, fun a => ?_⟩, row⟩
        rw [htk, sv.mem a, List.mem_append, List.mem_singleton]
        constructor
        · exact .inl
        · rintro (h | rfl)
          · exact h
          · exact (sv.mem _).1 hmem
      · rw [show decide (v ∈ X) = false by simpa using hmem] at hin
        obtain ⟨HA, ap, row2⟩ := row.push [iv v] rfl (by decide) 8 (by omega)
        have hz : zerosA [iv 0] 1 = [iv 0] := rfl
        obtain ⟨m, hm'⟩ : ∃ m, m = X.length + 1 := ⟨_, rfl⟩
        have q1 : (X ++ [v]).length = m := by simp [hm']
        have q2 : (X ++ [v]).map iv = X.map iv ++ [iv v] := by simp
        rw [← hm'] at ap row2
        have row3 : Row H HA 3 1 (X ++ [v]).length ((X ++ [v]).map iv) (.slice (some ⟨H1.next + 1, 0, none⟩) m 0) := by rw [q1, q2]; exact row2
        have c5 : IntKind.i64.wrap ((m : Int) - 1) = (X.length : Int) := by rw [w64 _ (by omega)]; omega
        simp [L29_2, t4, t0, e1, hil, ld]
        refine goT_of (by rw [t3]; exact hin) ?_
        simp [t4, t0, hil, ld, hz, t3, ap, c5]
        refine sift_T row3 sv.inc hmem (by omega) (by simp) (by simp) ?_
        intro t9 H9 X9 o9 g0 g4 g3 hinc hperm row9
        simp at g0 g4
        simp [g4, t4, e4]
        have hpl := hperm.length_eq
        simp at hpl
        refine ⟨k, by omega, iN, X9, o9, by omega, by simp [g0, t0'], by simp, by simp [g3], by omega, ⟨hinc, fun a => ?_⟩, row9⟩
        rw [htk, hperm.mem_iff, List.mem_cons, List.mem_append, List.mem_singleton, sv.mem a]
        exact Or.comm
def InvRw (H : Heap) (x y : Value) (l : List Int) (k : Nat) (t : Tm) (H1 : Heap) : Prop :=
  ∃ i, i + k = l.length ∧ t 0 = x ∧ t 1 = y ∧ t 5 = iv i ∧ H1 = H
theorem row_T {H : Heap} {x y : Value} {l : List Int} (hx : Ints H .i64 x l) (hy : Ints H .i64 y l) (hl : l.length ≤ 100000) : T Try.prog 19 [x, y] H (.bool true) H := by
  refine T_eq hm light19 ?_
  obtain ⟨a1, c1, h1⟩ := hx.len
  obtain ⟨a2, c2, h2⟩ := hy.len
  rw [h1, h2]
  simp [L19]
  rw [← h1, ← h2]
  refine loop_at (InvRw H x y l) l.length ?_ ?_
  · exact ⟨0, by omega, by simp [h1], by simp [h2], by simp, rfl⟩
  · rintro k t H1 ⟨i, hik, t0, t1, t5, rfl⟩
    cases k with
    | zero =>
      have e1 : ¬ ((i : Int) < l.length) := by omega
      rw [h1] at t0
      simp [L19_1, t5, t0, e1]
    | succ k =>
      have hil : i < l.length := by omega
      have e1 : ((i : Int) < l.length) := by omega
      have e4 : IntKind.i64.wrap ((i : Int) + 1) = ((i + 1 : Nat) : Int) := by rw [w64 _ (by omega)]; omega
      obtain ⟨iN, hiN⟩ : ∃ n : Nat, n = i + 1 := ⟨_, rfl⟩
      rw [← hiN] at e4
      obtain ⟨b, off, c, hxb, ldx⟩ := hx.at hil
      obtain ⟨b', off', c', hyb, ldy⟩ := hy.at hil
      have t0' := t0
      have t1' := t1
      rw [hxb] at t0
      rw [hyb] at t1
      simp [L19_1, t5, t0, t1, e1, hil, ldx, ldy, e4]
      exact ⟨k, by omega, iN, by omega, by simp [t0'], by simp [t1'], by simp, rfl⟩
end Go.Proofs.Ytadegahkgpedgaa
