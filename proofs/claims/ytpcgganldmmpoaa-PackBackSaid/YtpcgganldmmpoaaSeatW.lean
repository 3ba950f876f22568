/-
  All things laid down: by the program, and by the document.
-/
import Derived.Test.YtpcgganldmmpoaaSeatV
namespace Go.Proofs.Ytpcgganldmmpoaa
open Go.Ot Go.ChangeShapes Go.WideShapes Go.ChangeAt Go.RowKit
set_option linter.unusedSimpArgs false
set_option linter.unusedVariables false
def InvLd (H : Heap) (p : Nat) (x : Value) (l : List It) (k : Nat) (t : Tm) (H1 : Heap) : Prop :=
  ∃ (i : Nat) (x' : Value), i + k = l.length ∧ t 0 = x ∧ t 3 = ptr p ∧ t 4 = .int .i64 (i : Nat) ∧ AF H H1 p (.slice none 0 0) (encIts (l.take i)) x'
theorem laid_T {H : Heap} (hw : H.WF) {x : Value} {l : List It} (h : Items H x l) (hs : smallB l = true) : ∃ v H', T Try.prog 11 [x] H v H' ∧ OG H H' (.slice none 0 0) (encIts l) v := by
  refine T_by hm light11 ?_
  obtain ⟨xa, xc, hxl⟩ := h.len
  obtain ⟨h64, hsm⟩ := small_of hs
  have W0 := new_WR hw
  have w0 : (H.new 73 1 [.slice none 0 0]).WF := WF_new hw _ _ _
  obtain ⟨H0, hH0⟩ : ∃ H0, H0 = H.new 73 1 [.slice none 0 0] := ⟨_, rfl⟩
  have T0 := new_T hw
  rw [← hH0] at T0 W0 w0
  have b0 : H0.base = H.base := by rw [hH0]; rfl
  have n0 : H0.next = H.next + 1 := by rw [hH0]; rfl
  have k0 : ∀ b, b < H.next → H0.blk b = H.blk b := fun b hb => by rw [hH0]; simp [show b ≠ H.next by omega]
  have h0 := h.keep b0
  simp [L11]
  refine goT_of T0 ?_
  simp [fitsNil, isNil]
  refine loop_at (InvLd H0 H.next x l) l.length ?_ ?_
  · exact ⟨0, _, by omega, by simp, by simp, by simp, Aft.refl w0 W0⟩
  · rintro k t H1 ⟨i, x', hik, t0, t3, t4, a⟩
    have hok := h0.ok
    have hlen : ∀ i, (encIts (l.take i)).length ≤ 3000 * 64 := by
      intro i
      have := encIts_len (l := l.take i) (fun b hb => hok b (List.mem_of_mem_take hb)) (fun b hb => hsm b (List.mem_of_mem_take hb))
      have h3 : (l.take i).length ≤ 64 := by simp; omega
      exact Nat.le_trans this (Nat.mul_le_mul_left _ h3)
    cases k with
    | zero =>
      have e0 : i = l.length := by omega
      subst e0
      rw [List.take_length] at a
      have hl := hlen l.length
      rw [List.take_length] at hl
      obtain ⟨v, H2, T2, o2, hn2, s2⟩ := bytes_T a.wf a.wr (by omega)
      obtain ⟨va, hva⟩ := o2.len
      rw [hxl] at t0
      simp [L11_1, t0, t4]
      refine goT_of (by rw [t3]; exact T2) ?_
      subst hva
      simp
      have n1 := a.next
      have n2 := T2.grow.next
      refine ⟨T2.1.trans (a.base.trans b0), by omega, T2.grow.wf a.wf, o2, ?_, ?_⟩
      · intro b hb _
        rw [s2 b (by omega) (by simp), a.same b (by omega) (by omega) (by simp), k0 b hb]
      · intro b hb
        have := hn2 b hb
        exact .inr (by omega)
    | succ k =>
      have hi : i < l.length := by omega
      obtain ⟨b, off, c, hx, hk, l0, l1, l2, l3, l4, l5⟩ := (h0.keep a.base).at hi
      have e3 : IntKind.i64.wrap ((i : Int) + 1) = ((i + 1 : Nat) : Int) := by rw [w64 _ (by omega)]; omega
      obtain ⟨i1, hi1⟩ : ∃ i1, i1 = i + 1 := ⟨_, rfl⟩
      rw [← hi1] at e3
      have hli := hlen i
      have hki := hsm _ (List.getElem_mem hi)
      have en : encIts (l.take i1) = encIts (l.take i) ++ encIt l[i] := by rw [hi1, List.take_succ_eq_append_getElem hi, encIts_append]; simp [encIts]
      have fin : ∀ (t' : Tm) (H2 : Heap) (x2 : Value), AF H1 H2 H.next x' (encIts (l.take i) ++ encIt l[i]) x2 → t' 0 = x → t' 3 = ptr H.next → t' 4 = .int .i64 (i1 : Nat) → ∃ m, m < k + 1 ∧ InvLd H0 H.next x l m t' H2 :=
        fun t' H2 x2 a2 g0 g3 g4 => ⟨k, Nat.lt_succ_self k, i1, x2, by omega, g0, g3, g4, by rw [en]; exact a.trans a2⟩
      have hkl : kindN l[i].kind < 5 := by unfold kindN; omega
      simp [L11_1, t0, t4, hx, hi, l0]
      refine goT_of (kind_T _ hk.kind) ?_
      by_cases k0' : kindN l[i].kind = 0
      · obtain ⟨v2, H2, T2, x2, a2⟩ := uint_T a.wf a.wr hk.u (by omega)
        simp [k0', t0, t3, t4, hx, hi, l1]
        refine goT_of T2 ?_
        simp [t4, e3]
        rw [← hx]
        exact fin _ _ x2 (by rw [show encIt l[i] = encU l[i].u by simp [encIt, k0']]; exact a2) (by simp [t0, hx]) (by simp [t3]) (by simp)
      by_cases k1 : kindN l[i].kind = 1
      · obtain ⟨v2, H2, T2, x2, a2⟩ := int_T a.wf a.wr hk.n (by omega)
        simp [k1, t0, t3, t4, hx, hi, l2]
        refine goT_of T2 ?_
        simp [t4, e3]
        rw [← hx]
        exact fin _ _ x2 (by rw [show encIt l[i] = encU (zz l[i].n) by simp [encIt, k1]]; exact a2) (by simp [t0, hx]) (by simp [t3]) (by simp)
      by_cases k2 : kindN l[i].kind = 2
      · obtain ⟨v2, H2, T2, x2, a2⟩ := flag_T a.wf a.wr l[i].is (by omega)
        simp [k2, t0, t3, t4, hx, hi, l3]
        refine goT_of T2 ?_
        simp [t4, e3]
        rw [← hx]
        exact fin _ _ x2 (by rw [show encIt l[i] = [if l[i].is then 1 else 0] by simp [encIt, k2]]; exact a2) (by simp [t0, hx]) (by simp [t3]) (by simp)
      by_cases k3 : kindN l[i].kind = 3
      · obtain ⟨v2, H2, T2, x2, a2⟩ := text_T a.wf a.wr l[i].s (by omega) (by omega)
        simp [k3, t0, t3, t4, hx, hi, l4]
        refine goT_of T2 ?_
        simp [t4, e3]
        rw [← hx]
        exact fin _ _ x2 (by rw [show encIt l[i] = encU l[i].s.size ++ sb l[i].s by simp [encIt, k3], ← List.append_assoc]; exact a2) (by simp [t0, hx]) (by simp [t3]) (by simp)
      · obtain ⟨v2, H2, T2, x2, a2⟩ := ints_T a.wf a.wr hk.x (by omega) (by omega) hk.l
        simp [k0', k1, k2, k3, t0, t3, t4, hx, hi, l5]
        refine goT_of T2 ?_
        simp [t4, e3]
        rw [← hx]
        exact fin _ _ x2 (by rw [show encIt l[i] = encU l[i].l.length ++ encIs l[i].l by simp [encIt, k0', k1, k2, k3], ← List.append_assoc]; exact a2) (by simp [t0, hx]) (by simp [t3]) (by simp)
end Go.Proofs.Ytpcgganldmmpoaa
