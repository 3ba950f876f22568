/-
  The document's numbers as bytes; things that are laid down.
-/
import Derived.Test.YtpcgganldmmpoaaSeatS
namespace Go.Proofs.Ytpcgganldmmpoaa
open Go.Ot Go.ChangeShapes Go.WideShapes Go.ChangeAt Go.RowKit
set_option linter.unusedSimpArgs false
set_option linter.unusedVariables false
/-- A byte is turned. -/
theorem OG.set {H H1 : Heap} {x y : Value} {l : List Nat} (a : OG H H1 x l y) {i : Nat} (hi : i < l.length) (v : Nat) :
    ∃ b H2, y = sl b l.length ∧ H1.load ⟨b, i, none⟩ = some (.int .u8 ((l[i] : Nat) : Int)) ∧ H1.store ⟨b, i, none⟩ (.int .u8 (v : Int)) = some H2 ∧ OG H H2 x (l.set i v) y := by
  rcases a.own.2 with ⟨_, h0⟩ | ⟨b, rest, hy, hB, hk⟩
  · omega
  · refine ⟨b, H1.put b (bc (l.set i v) ++ rest), hy, ?_, ?_, ?_⟩
    · rw [load_at hB hk, List.getElem?_append_left (by rw [bc_len]; exact hi)]
      simp [bc, hi]
    · rw [store_own hB hk, if_pos (by rw [List.length_append, bc_len]; omega), List.set_append_left _ _ (by rw [bc_len]; exact hi)]
      simp [bc, List.map_set]
    · have hb := a.old b (by rw [hy]; rfl)
      refine ⟨a.base, a.next, WF_put a.wf _ _, ⟨by simp [bc_len], .inr ⟨b, rest, by simpa using hy, by simpa using hB, by simp [hk]⟩⟩, ?_, a.old⟩
      intro c hc hx
      have m1 : c ≠ b := by
        intro e
        subst e
        rcases hb with h | h
        · exact hx h
        · omega
      simp [m1]
      exact a.same c hc hx
def InvRU (H : Heap) (all : List Nat) (k : Nat) (t : Tm) (H1 : Heap) : Prop :=
  ∃ (w : List Nat) (m : Nat) (y : Value), m = k ∧ m < 18446744073709551616 ∧ t 0 = .int .u64 (m : Int) ∧ t 3 = y ∧ w ++ encU m = all ∧ OG H H1 (.slice none 0 0) w y
theorem uintR_T {H : Heap} (hw : H.WF) {n : Nat} (hn : n < 18446744073709551616) : ∃ v H', T Try.prog 41 [.int .u64 (n : Int)] H v H' ∧ OG H H' (.slice none 0 0) (encU n) v := by
  have hle : (encU n).length ≤ 10 := encU_len 9 n (by omega)
  refine T_by hm light41 ?_
  simp [L41]
  refine loop_at (InvRU H (encU n)) n ?_ ?_
  · exact ⟨[], n, _, rfl, hn, by simp, by simp, rfl, OG.same0 hw⟩
  · rintro k t H1 ⟨w, m, y, rfl, hm64, t0, t3, hpre, a⟩
    have hpl : w.length < 140737488355328 := by
      have := congrArg List.length hpre
      simp at this; omega
    obtain ⟨c, hc⟩ : ∃ c, c = m % 128 := ⟨_, rfl⟩
    obtain ⟨q, hq⟩ : ∃ q, q = m / 128 := ⟨_, rfl⟩
    have e1 : sBin .rem (.int .u64 (m : Int)) (.int .u64 128) = some (.int .u64 (c : Int)) := by rw [hc]; exact rem_nat .u64 m 128 (by decide)
    have e2 : IntKind.u8.wrap (c : Int) = (c : Int) := wu8 _ (by omega)
    have e3 : sBin .quo (.int .u64 (m : Int)) (.int .u64 128) = some (.int .u64 (q : Int)) := by rw [hq]; exact quo_u64 m 128 (by decide) hm64
    obtain ⟨HA, hap, a2⟩ := OG.push a.wf a.own c hpl
    obtain ⟨z, hz⟩ : ∃ z, z = H1.next + 1 := ⟨_, rfl⟩
    rw [← hz] at hap a2
    have a3 := a.trans a2
    by_cases h0 : q = 0
    · simp [L41_1, t0, t3, e1, e2, e3, zerosA, hap, h0]
      have : encU m = [c] := by rw [encU_small (by omega), hc, Nat.mod_eq_of_lt (by omega)]
      rw [this] at hpre
      rw [← hpre]
      exact a3
    · have e4 : encU m = (c + 128) :: encU q := by rw [encU_big (by omega), hc, hq]
      obtain ⟨b, H2, hy, hld, hst, a4⟩ := OG.set a3 (i := w.length) (by simp) (c + 128)
      have hb : b = z := by simpa using hy.symm
      rw [show (w ++ [c]).length = w.length + 1 by simp] at hy
      subst hb
      simp only [List.getElem_append_right (Nat.le_refl w.length), Nat.sub_self, List.getElem_cons_zero] at hld
      obtain ⟨d, hd⟩ : ∃ d, d = c + 128 := ⟨_, rfl⟩
      have e5 : IntKind.u8.wrap ((c : Int) + 128) = (d : Int) := by rw [wu8 _ (by omega)]; omega
      have e6 : IntKind.i64.wrap (w.length : Int) = (w.length : Int) := w64 _ (by omega)
      rw [← hd] at hst a4
      simp [L41_1, t0, t3, e1, e2, e3, zerosA, hap, h0, e6, hld, e5, hst]
      refine ⟨by omega, q, by omega, w ++ [d], q, sl b (w.length + 1), rfl, by omega, by simp, by simp, ?_, ?_⟩
      · rw [← hpre, e4, ← hd]; simp
      · have : (w ++ [c]).set w.length d = w ++ [d] := by simp
        rw [this] at a4
        exact a4
theorem intR_T {H : Heap} (hw : H.WF) {n : Int} (hn : -9223372036854775808 ≤ n ∧ n ≤ 9223372036854775807) : ∃ v H', T Try.prog 42 [.int .i64 n] H v H' ∧ OG H H' (.slice none 0 0) (encU (zz n)) v := by
  have hz : zz n < 18446744073709551616 := by unfold zz; split <;> omega
  obtain ⟨v, H', T1, a⟩ := uintR_T hw hz
  obtain ⟨va, hva⟩ := a.own.len
  subst hva
  refine T_by hm light42 ?_
  by_cases h0 : 0 ≤ n
  · have e1 : IntKind.u64.wrap n = n := wu64 _ (by omega)
    have e2 : IntKind.u64.wrap (n * 2) = ((zz n : Nat) : Int) := by rw [wu64 _ (by omega)]; unfold zz; rw [if_pos h0]; omega
    simp [L42, h0, e1, e2]
    refine goT_of T1 ?_
    simp
    exact a
  · have e1 : IntKind.i64.wrap (n + 1) = n + 1 := w64 _ (by omega)
    have e2 : IntKind.i64.wrap (-(n + 1)) = -(n + 1) := w64 _ (by omega)
    have e3 : IntKind.u64.wrap (-(n + 1)) = -(n + 1) := wu64 _ (by omega)
    have e4 : IntKind.u64.wrap (-(n + 1) * 2) = -(n + 1) * 2 := wu64 _ (by omega)
    have e5 : IntKind.u64.wrap (-(n + 1) * 2 + 1) = ((zz n : Nat) : Int) := by rw [wu64 _ (by omega)]; unfold zz; rw [if_neg h0]; omega
    obtain ⟨r, hr⟩ : ∃ r, r = n + 1 := ⟨_, rfl⟩
    rw [← hr] at e1 e2 e3 e4 e5
    obtain ⟨s, hs⟩ : ∃ s, s = -r := ⟨_, rfl⟩
    rw [← hs] at e2 e3 e4 e5
    obtain ⟨u, hu⟩ : ∃ u, u = s * 2 := ⟨_, rfl⟩
    rw [← hu] at e4 e5
    simp [L42, h0, ← hr, e1, ← hs, e2, e3, ← hu, e4, e5]
    refine goT_of T1 ?_
    simp
    exact a
def encIs (l : List Int) : List Nat := l.flatMap fun n => encU (zz n)
theorem encIs_append (a b : List Int) : encIs (a ++ b) = encIs a ++ encIs b := by simp [encIs]
theorem zz_lt {n : Int} (hn : -9223372036854775808 ≤ n ∧ n ≤ 9223372036854775807) : zz n < 18446744073709551616 := by unfold zz; split <;> omega
theorem encIs_len (l : List Int) (h : ∀ n ∈ l, -9223372036854775808 ≤ n ∧ n ≤ 9223372036854775807) : (encIs l).length ≤ 10 * l.length := by
  induction l with
  | nil => simp [encIs]
  | cons a l ih =>
    have h1 := ih (fun n hn => h n (by simp [hn]))
    have h3 := zz_lt (h a (by simp))
    have h2 := encU_len 9 (zz a) (by omega)
    have e : encIs (a :: l) = encU (zz a) ++ encIs l := by simp [encIs]
    rw [e, List.length_append, List.length_cons]; omega
def InvIs (H : Heap) (p : Nat) (x y : Value) (bs : List Nat) (l : List Int) (k : Nat) (t : Tm) (H1 : Heap) : Prop :=
  ∃ (i : Nat) (x' : Value), i + k = l.length ∧ t 0 = ptr p ∧ t 11 = y ∧ t 12 = .int .i64 (l.length : Nat) ∧ t 13 = .int .i64 (i : Nat) ∧ AF H H1 p x (bs ++ encIs (l.take i)) x'
theorem ints_T {H : Heap} (hw : H.WF) {p : Nat} {bs : List Nat} {x : Value} (h : WR H p bs x) {y : Value} {l : List Int} (hy : IntsB H .i64 y l)
    (hl : bs.length ≤ 10000000000000) (hll : l.length ≤ 1000000) (hn : ∀ n ∈ l, -9223372036854775808 ≤ n ∧ n ≤ 9223372036854775807) :
    ∃ v H', T Try.prog 40 [ptr p, y] H v H' ∧ ∃ x', AF H H' p x (bs ++ encU l.length ++ encIs l) x' := by
  have hle : (encU l.length).length ≤ 10 := encU_len 9 _ (by omega)
  obtain ⟨ya, yc, hyl2⟩ := hy.len
  have e1 : IntKind.u64.wrap (l.length : Int) = (l.length : Int) := wu64 _ (by omega)
  obtain ⟨v1, H1, T1, x1, a1⟩ := uint_T hw h (n := l.length) (by omega) (by omega)
  refine T_by hm light40 ?_
  rw [hyl2]
  simp [L40, e1]
  refine goT_of T1 ?_
  simp
  rw [← hyl2]
  refine loop_at (InvIs H p x y (bs ++ encU l.length) l) l.length ?_ ?_
  · exact ⟨0, x1, by omega, by simp, by simp, by simp, by simp, by simpa [encIs] using a1⟩
  · rintro k t H2 ⟨i, x2, hik, t0, t11, t12, t13, a2⟩
    cases k with
    | zero =>
      have e0 : i = l.length := by omega
      subst e0
      rw [List.take_length] at a2
      simp [L40_1, t12, t13]
      exact ⟨x2, by simpa using a2⟩
    | succ k =>
      have hi : i < l.length := by omega
      obtain ⟨b, off, c, hb, _, ld⟩ := (hy.keep a2.base).at hi
      have e3 : IntKind.i64.wrap ((i : Int) + 1) = ((i + 1 : Nat) : Int) := by rw [w64 _ (by omega)]; omega
      obtain ⟨i1, hi1⟩ : ∃ i1, i1 = i + 1 := ⟨_, rfl⟩
      rw [← hi1] at e3
      have hlen : (encIs (l.take i)).length ≤ 10 * i := by
        have := encIs_len (l.take i) (fun n hn' => hn n (List.mem_of_mem_take hn'))
        simp at this; omega
      obtain ⟨v3, H3, T3, x3, a3⟩ := int_T a2.wf a2.wr (n := l[i]) (hn _ (List.getElem_mem hi)) (by simp only [List.length_append]; omega)
      simp [L40_1, t0, t11, t12, t13, hb, hi, ld]
      refine goT_of T3 ?_
      simp [t13, e3]
      refine ⟨k, Nat.lt_succ_self k, i1, x3, by omega, by simp [t0], by simp [t11, hb], by simp [t12], by simp, ?_⟩
      have e4 : bs ++ encU l.length ++ encIs (l.take i1) = bs ++ encU l.length ++ encIs (l.take i) ++ encU (zz l[i]) := by
        rw [hi1, List.take_succ_eq_append_getElem hi, encIs_append]; simp [encIs]
      rw [e4]
      exact a2.trans a3
end Go.Proofs.Ytpcgganldmmpoaa
