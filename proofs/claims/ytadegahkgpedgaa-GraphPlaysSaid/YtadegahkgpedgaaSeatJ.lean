/-
  Chapter 23: a heap of ages: two compared, two exchanged; up and down.
-/
import Derived.Test.YtadegahkgpedgaaSeatG
namespace Go.Proofs.Ytadegahkgpedgaa
open Go.Ot Go.RowKit
set_option linter.unusedSimpArgs false
set_option linter.unusedVariables false
def g (A : List Int) (i : Nat) : Int := A.getD i 0
theorem g_get {A : List Int} {i : Nat} (h : i < A.length) : g A i = A[i] := by simp [g, List.getD, h]
def swp (A : List Int) (i k : Nat) : List Int := (A.set i (g A k)).set k (g A i)
theorem swp_len (A : List Int) (i k : Nat) : (swp A i k).length = A.length := by simp [swp]
theorem g_swp {A : List Int} {i k : Nat} (hi : i < A.length) (hk : k < A.length) (x : Nat) : g (swp A i k) x = if x = k then g A i else if x = i then g A k else g A x := by
  simp only [g, swp, List.getD, List.getElem?_set, List.length_set]
  by_cases h1 : x = k
  · subst h1
    simp [hk]
  · have h1' : ¬ k = x := fun h => h1 h.symm
    by_cases h2 : x = i
    · subst h2
      simp [h1, h1', hi]
    · have h2' : ¬ i = x := fun h => h2 h.symm
      simp [h1, h1', h2, h2']
theorem swp_perm {A : List Int} {i k : Nat} (hi : i < A.length) (hk : k < A.length) : (swp A i k).Perm A := by
  unfold swp
  rw [g_get hi, g_get hk]
  exact List.set_set_perm hi hk
theorem swp_app {B R : List Int} {i k : Nat} (hi : i < B.length) (hk : k < B.length) : swp (B ++ R) i k = swp B i k ++ R := by
  have e1 : g (B ++ R) i = g B i := by simp [g, List.getD, List.getElem?_append_left hi]
  have e2 : g (B ++ R) k = g B k := by simp [g, List.getD, List.getElem?_append_left hk]
  unfold swp
  rw [e1, e2, List.set_append_left _ _ hi, List.set_append_left _ _ (by simpa using hk)]
theorem g_app {B R : List Int} {i : Nat} (hi : i < B.length) : g (B ++ R) i = g B i := by simp [g, List.getD, List.getElem?_append_left hi]
theorem HR.at {H : Heap} {q : Nat} {A : List Int} {y : Value} (h : HR H q A y) {i : Nat} (hi : i < A.length) :
    ∃ b rest, y = .slice (some ⟨b, 0, none⟩) A.length 0 ∧ ¬ b < H.B ∧ H.blk b = some ⟨3, 1, A.map iv ++ rest⟩ ∧ H.load ⟨b, i, none⟩ = some (iv (g A i)) := by
  rcases h.own.2 with ⟨_, h0⟩ | ⟨b, rest, hy, hB, hk⟩
  · omega
  · refine ⟨b, rest, hy, hB, hk, ?_⟩
    rw [load_at hB hk, g_get hi]
    simp [List.getElem?_append_left, hi]
theorem iless_T {H : Heap} {q : Nat} {A : List Int} {y : Value} (h : HR H q A y) {i k : Nat} (hi : i < A.length) (hk : k < A.length) : TI Try.prog (agesI q) "Less" [iv i, iv k] H (.bool (decide (g A i < g A k))) H := by
  refine ⟨60, ptr q, 53, .load false 1, y, rfl, mLess, h.ld, ⟨Try.f53, Try.func53, rfl, by kernel_rfl⟩, ?_⟩
  refine T_eq hm light53 ?_
  obtain ⟨b, rest, rfl, hB, hb, l1⟩ := h.at hi
  obtain ⟨b2, rest2, h2, _, _, l2⟩ := h.at hk
  simp at h2
  subst h2
  simp [L53, hi, hk, l1, l2]
theorem iswap_T {H : Heap} (hw : H.WF) {q : Nat} {A : List Int} {y : Value} (h : HR H q A y) {i k : Nat} (hi : i < A.length) (hk : k < A.length) : ∃ u H', TI Try.prog (agesI q) "Swap" [iv i, iv k] H u H' ∧ HR H' q (swp A i k) y ∧ Aft H H' q y y := by
  obtain ⟨u, H', hT, h1, h2⟩ : ∃ u H', T Try.prog 56 [y, iv i, iv k] H u H' ∧ HR H' q (swp A i k) y ∧ Aft H H' q y y := by
    refine T_by hm light56 ?_
    obtain ⟨b, rest, rfl, hB, hb, l1⟩ := h.at hi
    obtain ⟨b2, rest2, h2, _, _, l2⟩ := h.at hk
    simp at h2
    subst h2
    obtain ⟨HA, hHA⟩ : ∃ HA, HA = H.put b ((A.set i (g A k)).map iv ++ rest) := ⟨_, rfl⟩
    have s1 : H.store ⟨b, i, none⟩ (iv (g A k)) = some HA := by
      rw [store_own hB hb, if_pos (by simp; omega), hHA, List.set_append_left _ _ (by simpa using hi), List.map_set]
    have hbA : HA.blk b = some ⟨3, 1, (A.set i (g A k)).map iv ++ rest⟩ := by rw [hHA]; simp [hb]
    have hBA : ¬ b < HA.B := by rw [hHA]; exact hB
    obtain ⟨HC, hHC⟩ : ∃ HC, HC = HA.put b ((swp A i k).map iv ++ rest) := ⟨_, rfl⟩
    have s2 : HA.store ⟨b, k, none⟩ (iv (g A i)) = some HC := by
      rw [store_own hBA hbA, if_pos (by simp; omega), hHC, List.set_append_left _ _ (by simpa using hk), ← List.map_set]
      rfl
    have hbq : b ≠ q := fun e => h.qy (by simp [e])
    simp [L56, hi, hk, l1, l2, s1, s2]
    refine ⟨⟨?_, ?_, ?_, h.qy⟩, ⟨?_, ?_, ?_, ?_, ?_⟩⟩
    · rw [hHC, hHA]; exact h.hq
    · rw [hHC, hHA]; simp [hbq.symm, h.bq]
    · refine ⟨by simp [swp_len], .inr ⟨b, rest, by rw [swp_len], by rw [hHC, hHA]; exact hB, by rw [hHC]; simp [hbA]⟩⟩
    · rw [hHC, hHA]; exact WF_put (WF_put hw _ _) _ _
    · rw [hHC, hHA]; rfl
    · rw [hHC, hHA]; exact Nat.le_refl _
    · intro c hc hcq hcy
      have : c ≠ b := fun e => hcy (by simp [e])
      rw [hHC, hHA]; simp [this]
    · intro c hc; exact .inl hc
  exact ⟨u, H', ⟨60, ptr q, 56, .load false 1, y, rfl, mSwap, h.ld, ⟨Try.f56, Try.func56, rfl, by kernel_rfl⟩, hT⟩, h1, h2⟩
def par (i : Nat) : Nat := (i - 1) / 2
def IsHeap (A : List Int) : Prop := ∀ x, 0 < x → x < A.length → g A (par x) ≤ g A x
def UpOk (A : List Int) (j : Nat) : Prop :=
  j < A.length ∧ (∀ x, 0 < x → x < A.length → x ≠ j → g A (par x) ≤ g A x) ∧ ∀ x, 0 < x → x < A.length → par x = j → 0 < j → g A (par j) ≤ g A x
theorem up_step {A : List Int} {j : Nat} (h : UpOk A j) (hj : 0 < j) (hlt : g A j < g A (par j)) : UpOk (swp A (par j) j) (par j) := by
  obtain ⟨hjn, h1, h2⟩ := h
  have hi : par j < A.length := by unfold par; omega
  have hpj : par j < j := by unfold par; omega
  have gs := g_swp hi hjn
  refine ⟨by rw [swp_len]; exact hi, ?_, ?_⟩
  · intro x hx hxn hxi
    rw [swp_len] at hxn
    have hpx : par x < x := by unfold par; omega
    rw [gs, gs]
    by_cases e1 : x = j
    · subst e1
      rw [if_neg (by omega), if_pos rfl, if_pos rfl]
      omega
    · rw [if_neg e1, if_neg hxi]
      by_cases e2 : par x = j
      · rw [if_pos e2]
        exact h2 x hx hxn e2 hj
      · rw [if_neg e2]
        by_cases e3 : par x = par j
        · rw [if_pos e3]
          have := h1 x hx hxn e1
          rw [e3] at this
          omega
        · rw [if_neg e3]
          exact h1 x hx hxn e1
  · intro x hx hxn hpx hi0
    rw [swp_len] at hxn
    have hpp : par (par j) < par j := by unfold par at *; omega
    rw [gs, gs]
    rw [if_neg (by omega), if_neg (by omega)]
    have h3 := h1 (par j) hi0 hi (by omega)
    by_cases e1 : x = j
    · rw [if_pos e1]; exact h3
    · have hxp : x ≠ par j := by
        intro e
        rw [e] at hpx
        omega
      rw [if_neg e1, if_neg hxp]
      have := h1 x hx hxn e1
      rw [hpx] at this
      omega
def InvU (H : Heap) (q : Nat) (A : List Int) (y : Value) (k : Nat) (t : Tm) (H1 : Heap) : Prop :=
  ∃ A', t 0 = agesI q ∧ t 1 = iv k ∧ HR H1 q A' y ∧ A'.Perm A ∧ UpOk A' k ∧ Aft H H1 q y y
theorem up_T {H : Heap} (hw : H.WF) {q : Nat} {A : List Int} {y : Value} (h : HR H q A y) {j : Nat} (hu : UpOk A j) (hl : A.length < 1000000) : ∃ u H' A', T Try.prog 35 [agesI q, iv j] H u H' ∧ HR H' q A' y ∧ A'.Perm A ∧ IsHeap A' ∧ Aft H H' q y y := by
  have : ∃ u H', T Try.prog 35 [agesI q, iv j] H u H' ∧ ∃ A', HR H' q A' y ∧ A'.Perm A ∧ IsHeap A' ∧ Aft H H' q y y := by
    refine T_by hm light35 ?_
    simp [L35]
    refine loop_at (InvU H q A y) j ?_ ?_
    · exact ⟨A, by simp, by simp, h, List.Perm.refl _, hu, Aft.refl hw q y⟩
    · rintro k t H1 ⟨A', t0, t1, hr, hp, hu', aft⟩
      have hln := hp.length_eq
      obtain ⟨hkn, h1, h2⟩ := hu'
      rcases Nat.eq_zero_or_pos k with rfl | hk
      · have c1 : IntKind.i64.wrap (-1) = -1 := rfl
        have c2 : sBin .quo (iv (-1)) (iv 2) = some (iv 0) := rfl
        have t1' : t 1 = iv 0 := t1
        simp [L35_1, t1', c1, c2]
        exact ⟨A', hr, hp, fun x hx hxn => h1 x hx hxn (by omega), aft⟩
      · obtain ⟨i, hi⟩ : ∃ i, i = par k := ⟨_, rfl⟩
        have hik : i < k := by rw [hi]; unfold par; omega
        obtain ⟨k1, hk1⟩ : ∃ k1 : Nat, k1 = k - 1 := ⟨_, rfl⟩
        have c1 : IntKind.i64.wrap ((k : Int) - 1) = (k1 : Int) := by rw [w64 _ (by omega)]; omega
        have c2 : sBin .quo (iv k1) (iv 2) = some (iv i) := by
          rw [sBin_quo, if_neg (by decide)]
          have : ((k1 : Int).tdiv 2) = ((k1 / 2 : Nat) : Int) := rfl
          rw [this, w64 _ (by omega), hi, hk1]
          rfl
        have hne : ((i : Int) == (k : Int)) = false := by
          have : ¬ (i = k) := by omega
          simpa using this
        have hl1 := iless_T hr (i := k) (k := i) hkn (by omega)
        by_cases hlt : g A' k < g A' i
        · rw [show decide (g A' k < g A' i) = true by simpa using hlt] at hl1
          obtain ⟨u, H2, hs, hr2, a2⟩ := iswap_T aft.wf hr (i := i) (k := k) (by omega) hkn
          have hst := up_step ⟨hkn, h1, h2⟩ hk (by rw [← hi]; exact hlt)
          rw [← hi] at hst
          have hperm := swp_perm (A := A') (i := i) (k := k) (by omega) hkn
          simp [L35_1, t1, c1, c2, hne]
          refine goTI_of (by rw [t0]; exact hl1) ?_
          simp [t0, t1]
          refine goTI_of hs ?_
          simp
          exact ⟨i, by omega, swp A' i k, by simp [t0], by simp, hr2, hperm.trans hp, hst, aft.trans a2⟩
        · rw [show decide (g A' k < g A' i) = false by simpa using hlt] at hl1
          simp [L35_1, t1, c1, c2, hne]
          refine goTI_of (by rw [t0]; exact hl1) ?_
          simp
          refine ⟨A', hr, hp, fun x hx hxn => ?_, aft⟩
          by_cases hxk : x = k
          · subst hxk
            rw [← hi]; omega
          · exact h1 x hx hxn hxk
  obtain ⟨u, H', hT, A', h1, h2, h3, h4⟩ := this
  exact ⟨u, H', A', hT, h1, h2, h3, h4⟩
end Go.Proofs.Ytadegahkgpedgaa
