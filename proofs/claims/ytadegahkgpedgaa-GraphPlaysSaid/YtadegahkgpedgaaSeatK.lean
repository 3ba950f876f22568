/-
  Chapter 23: a heap of ages: down, Pop, Push.
-/
import Derived.Test.YtadegahkgpedgaaSeatJ
namespace Go.Proofs.Ytadegahkgpedgaa
open Go.Ot Go.RowKit
set_option linter.unusedSimpArgs false
set_option linter.unusedVariables false
def DownOk (B : List Int) (i : Nat) : Prop :=
  (∀ x, 0 < x → x < B.length → par x ≠ i → g B (par x) ≤ g B x) ∧ ∀ x, 0 < x → x < B.length → par x = i → 0 < i → g B (par i) ≤ g B x
theorem down_step {B : List Int} {i j : Nat} (h : DownOk B i) (hj : j < B.length) (hpj : par j = i) (hj0 : 0 < j) (hsm : ∀ x, 0 < x → x < B.length → par x = i → g B j ≤ g B x) (hlt : g B j < g B i) : DownOk (swp B i j) j := by
  obtain ⟨h1, h2⟩ := h
  have hij : i < j := by rw [← hpj]; unfold par; omega
  have hi : i < B.length := by omega
  have gs := g_swp hi hj
  constructor
  · intro x hx hxn hpx
    rw [swp_len] at hxn
    have hpxx : par x < x := by unfold par; omega
    rw [gs, gs]
    rw [if_neg hpx]
    by_cases e1 : par x = i
    · rw [if_pos e1]
      have := hsm x hx hxn e1
      by_cases e2 : x = j
      · rw [if_pos e2]; omega
      · rw [if_neg e2, if_neg (by omega)]; exact this
    · rw [if_neg e1]
      have hxj : x ≠ j := fun e => e1 (by rw [e]; exact hpj)
      rw [if_neg hxj]
      by_cases e2 : x = i
      · rw [if_pos e2]
        subst e2
        exact h2 j hj0 hj hpj hx
      · rw [if_neg e2]
        exact h1 x hx hxn e1
  · intro x hx hxn hpx _
    rw [swp_len] at hxn
    have hpxx : par x < x := by unfold par; omega
    rw [gs, gs, hpj]
    rw [if_neg (by omega), if_pos rfl, if_neg (by omega), if_neg (by omega)]
    have := h1 x hx hxn (by omega)
    rw [hpx] at this
    exact this
theorem down_end {B : List Int} {i : Nat} (h : DownOk B i) (hc : ∀ x, 0 < x → x < B.length → par x = i → g B i ≤ g B x) : IsHeap B := by
  intro x hx hxn
  by_cases e : par x = i
  · rw [e]; exact hc x hx hxn e
  · exact h.1 x hx hxn e
def InvDn (H : Heap) (q : Nat) (B R : List Int) (y : Value) (k : Nat) (t : Tm) (H1 : Heap) : Prop :=
  ∃ (B' : List Int) (i : Nat), i + k = B.length + 1 ∧ t 0 = agesI q ∧ t 1 = iv 0 ∧ t 2 = iv B.length ∧ t 7 = iv i ∧ HR H1 q (B' ++ R) y ∧ B'.Perm B ∧ DownOk B' i ∧ Aft H H1 q y y
theorem down_T {H : Heap} (hw : H.WF) {q : Nat} {B R : List Int} {y : Value} (h : HR H q (B ++ R) y) (hd : DownOk B 0) (hl : B.length < 1000000) :
    ∃ u H' B', T Try.prog 34 [agesI q, iv 0, iv B.length] H u H' ∧ HR H' q (B' ++ R) y ∧ B'.Perm B ∧ IsHeap B' ∧ Aft H H' q y y := by
  have : ∃ u H', T Try.prog 34 [agesI q, iv 0, iv B.length] H u H' ∧ ∃ B', HR H' q (B' ++ R) y ∧ B'.Perm B ∧ IsHeap B' ∧ Aft H H' q y y := by
    refine T_by hm light34 ?_
    simp [L34]
    refine loop_at (InvDn H q B R y) (B.length + 1) ?_ ?_
    · exact ⟨B, 0, by omega, by simp, by simp, by simp, by simp, h, List.Perm.refl _, hd, Aft.refl hw q y⟩
    · rintro k t H1 ⟨B', i, hik, t0, t1, t2, t7, hr, hp, hd', aft⟩
      have hln := hp.length_eq
      have hiB : i ≤ B.length + 1 := by omega
      obtain ⟨i2, hi2⟩ : ∃ i2 : Nat, i2 = 2 * i := ⟨_, rfl⟩
      obtain ⟨j1, hj1⟩ : ∃ j1 : Nat, j1 = i2 + 1 := ⟨_, rfl⟩
      obtain ⟨j2, hj2⟩ : ∃ j2 : Nat, j2 = j1 + 1 := ⟨_, rfl⟩
      have c1 : IntKind.i64.wrap (2 * (i : Int)) = (i2 : Int) := by rw [w64 _ (by omega)]; omega
      have c2 : IntKind.i64.wrap ((i2 : Int) + 1) = (j1 : Int) := by rw [w64 _ (by omega)]; omega
      have c3 : IntKind.i64.wrap ((j1 : Int) + 1) = (j2 : Int) := by rw [w64 _ (by omega)]; omega
      have hch : ∀ x, 0 < x → par x = i → x = j1 ∨ x = j2 := by intro x hx hpx; unfold par at hpx; omega
      have hp1 : par j1 = i := by unfold par; omega
      have hp2 : par j2 = i := by unfold par; omega
      by_cases hge : B.length ≤ j1
      · have hfin : IsHeap B' := down_end hd' (fun x hx hxn hpx => by rcases hch x hx hpx with e | e <;> omega)
        simp [L34_1, t7, t2, t1, c1, c2, hge]
        exact ⟨B', hr, hp, hfin, aft⟩
      · have hj1l : j1 < B'.length := by omega
        have hneg : ¬ (j1 : Int) < 0 := by omega
        have lapp : ∀ x, x < B'.length → x < (B' ++ R).length := fun x hx => by simp; omega
        -- behind the choice of the smaller child
        have step : ∀ j : Nat, j < B'.length → par j = i → 0 < j → (∀ x, 0 < x → x < B'.length → par x = i → g B' j ≤ g B' x) →
            (g B' j < g B' i → ∃ u H2, TI Try.prog (agesI q) "Swap" [iv i, iv j] H1 u H2 ∧ HR H2 q (swp B' i j ++ R) y ∧ Aft H1 H2 q y y ∧ (swp B' i j).Perm B ∧ DownOk (swp B' i j) j) := by
          intro j hjl hpj hj0 hsm hlt
          have hil : i < B'.length := by rw [← hpj]; unfold par; omega
          obtain ⟨u, H2, hs, hr2, a2⟩ := iswap_T aft.wf hr (lapp i hil) (lapp j hjl)
          rw [swp_app hil hjl] at hr2
          exact ⟨u, H2, hs, hr2, a2, (swp_perm hil hjl).trans hp, down_step hd' hjl hpj hj0 hsm hlt⟩
        have less : ∀ a b : Nat, a < B'.length → b < B'.length → TI Try.prog (agesI q) "Less" [iv a, iv b] H1 (.bool (decide (g B' a < g B' b))) H1 := by
          intro a b ha hb
          have := iless_T hr (lapp a ha) (lapp b hb)
          rw [g_app ha, g_app hb] at this
          exact this
        have hil : i < B'.length := by omega
        by_cases h2l : j2 < B.length
        · have hj2l : j2 < B'.length := by omega
          have hL := less j2 j1 hj2l hj1l
          by_cases h21 : g B' j2 < g B' j1
          · rw [show decide (g B' j2 < g B' j1) = true by simpa using h21] at hL
            have hsm : ∀ x, 0 < x → x < B'.length → par x = i → g B' j2 ≤ g B' x := by
              intro x hx _ hpx
              rcases hch x hx hpx with rfl | rfl <;> omega
            have hL2 := less j2 i hj2l hil
            by_cases hlt : g B' j2 < g B' i
            · rw [show decide (g B' j2 < g B' i) = true by simpa using hlt] at hL2
              obtain ⟨u, H2, hs, hr2, a2, hpm, hdn⟩ := step j2 hj2l hp2 (by omega) hsm hlt
              simp [L34_1, t7, t2, c1, c2, c3, hge, hneg, h2l]
              refine goTI_of (by rw [t0]; exact hL) ?_
              simp [t0, t7]
              refine goTI_of hL2 ?_
              simp [t0, t7]
              refine goTI_of hs ?_
              simp
              exact ⟨B.length + 1 - j2, by omega, swp B' i j2, j2, by omega, by simp [t0], by simp [t1], by simp [t2], by simp, hr2, hpm, hdn, aft.trans a2⟩
            · rw [show decide (g B' j2 < g B' i) = false by simpa using hlt] at hL2
              have hfin : IsHeap B' := down_end hd' (fun x hx hxn hpx => by have := hsm x hx hxn hpx; omega)
              simp [L34_1, t7, t2, c1, c2, c3, hge, hneg, h2l]
              refine goTI_of (by rw [t0]; exact hL) ?_
              simp [t0, t7]
              refine goTI_of hL2 ?_
              simp [t7, t1]
              exact ⟨B', hr, hp, hfin, aft⟩
          · rw [show decide (g B' j2 < g B' j1) = false by simpa using h21] at hL
            have hsm : ∀ x, 0 < x → x < B'.length → par x = i → g B' j1 ≤ g B' x := by
              intro x hx _ hpx
              rcases hch x hx hpx with rfl | rfl <;> omega
            have hL2 := less j1 i hj1l hil
            by_cases hlt : g B' j1 < g B' i
            · rw [show decide (g B' j1 < g B' i) = true by simpa using hlt] at hL2
              obtain ⟨u, H2, hs, hr2, a2, hpm, hdn⟩ := step j1 hj1l hp1 (by omega) hsm hlt
              simp [L34_1, t7, t2, c1, c2, c3, hge, hneg, h2l]
              refine goTI_of (by rw [t0]; exact hL) ?_
              simp [t0, t7]
              refine goTI_of hL2 ?_
              simp [t0, t7]
              refine goTI_of hs ?_
              simp
              exact ⟨B.length + 1 - j1, by omega, swp B' i j1, j1, by omega, by simp [t0], by simp [t1], by simp [t2], by simp, hr2, hpm, hdn, aft.trans a2⟩
            · rw [show decide (g B' j1 < g B' i) = false by simpa using hlt] at hL2
              have hfin : IsHeap B' := down_end hd' (fun x hx hxn hpx => by have := hsm x hx hxn hpx; omega)
              simp [L34_1, t7, t2, c1, c2, c3, hge, hneg, h2l]
              refine goTI_of (by rw [t0]; exact hL) ?_
              simp [t0, t7]
              refine goTI_of hL2 ?_
              simp [t7, t1]
              exact ⟨B', hr, hp, hfin, aft⟩
        · have hsm : ∀ x, 0 < x → x < B'.length → par x = i → g B' j1 ≤ g B' x := by
            intro x hx hxn hpx
            rcases hch x hx hpx with rfl | rfl <;> omega
          have hL2 := less j1 i hj1l hil
          by_cases hlt : g B' j1 < g B' i
          · rw [show decide (g B' j1 < g B' i) = true by simpa using hlt] at hL2
            obtain ⟨u, H2, hs, hr2, a2, hpm, hdn⟩ := step j1 hj1l hp1 (by omega) hsm hlt
            simp [L34_1, t7, t2, c1, c2, c3, hge, hneg, h2l]
            refine goTI_of (by rw [t0]; exact hL2) ?_
            simp [t0, t7]
            refine goTI_of hs ?_
            simp
            exact ⟨B.length + 1 - j1, by omega, swp B' i j1, j1, by omega, by simp [t0], by simp [t1], by simp [t2], by simp, hr2, hpm, hdn, aft.trans a2⟩
          · rw [show decide (g B' j1 < g B' i) = false by simpa using hlt] at hL2
            have hfin : IsHeap B' := down_end hd' (fun x hx hxn hpx => by have := hsm x hx hxn hpx; omega)
            simp [L34_1, t7, t2, c1, c2, c3, hge, hneg, h2l]
            refine goTI_of (by rw [t0]; exact hL2) ?_
            simp [t7, t1]
            exact ⟨B', hr, hp, hfin, aft⟩
  obtain ⟨u, H', hT, B', h1, h2, h3, h4⟩ := this
  exact ⟨u, H', B', hT, h1, h2, h3, h4⟩
theorem root_min {A : List Int} (h : IsHeap A) : ∀ x, x < A.length → g A 0 ≤ g A x
  | 0, _ => Int.le_refl _
  | x + 1, hx => by
    have h1 := h (x + 1) (by omega) hx
    have hp : par (x + 1) < x + 1 := by unfold par; omega
    have h2 := root_min h (par (x + 1)) (by omega)
    omega
theorem hpop_T {H : Heap} (hw : H.WF) {q : Nat} {A : List Int} {y : Value} (h : HR H q A y) (hh : IsHeap A) (h0 : A ≠ []) (hl : A.length < 100000) :
    ∃ H' y' A', T Try.prog 25 [agesI q] H (.iface 3 (iv (g A 0))) H' ∧ HR H' q A' y' ∧ (g A 0 :: A').Perm A ∧ IsHeap A' ∧ Aft H H' q y y' := by
  have : ∃ u H', T Try.prog 25 [agesI q] H u H' ∧ u = .iface 3 (iv (g A 0)) ∧ ∃ y' A', HR H' q A' y' ∧ (g A 0 :: A').Perm A ∧ IsHeap A' ∧ Aft H H' q y y' := by
    refine T_by hm light25 ?_
    obtain ⟨n, hn⟩ : ∃ n, A.length = n + 1 := ⟨A.length - 1, by have := List.length_pos_iff.2 h0; omega⟩
    have hlen := ilen_T h
    rw [hn] at hlen
    obtain ⟨n1, hn1⟩ : ∃ n1, n1 = n + 1 := ⟨_, rfl⟩
    rw [← hn1] at hlen
    have c1 : IntKind.i64.wrap ((n1 : Int) - 1) = (n : Int) := by rw [w64 _ (by omega)]; omega
    obtain ⟨u1, H1, hs, hr1, a1⟩ := iswap_T hw h (i := 0) (k := n) (by omega) (by omega)
    obtain ⟨B, hB⟩ : ∃ B, B = (swp A 0 n).take n := ⟨_, rfl⟩
    have hBl : B.length = n := by rw [hB, List.length_take, swp_len]; omega
    have hsplit : swp A 0 n = B ++ [g A 0] := by
      have hsl : n < (swp A 0 n).length := by rw [swp_len]; omega
      have : swp A 0 n = (swp A 0 n).take n ++ (swp A 0 n).drop n := (List.take_append_drop _ _).symm
      rw [this, ← hB]
      congr 1
      rw [List.drop_eq_getElem_cons hsl, List.drop_eq_nil_of_le (by rw [swp_len]; omega), ← g_get hsl, g_swp (by omega) (by omega), if_pos rfl]
    have gB : ∀ x, x < n → g B x = if x = 0 then g A n else g A x := by
      intro x hx
      have h1 : g (swp A 0 n) x = g B x := by rw [hsplit, g_app (by omega)]
      rw [← h1, g_swp (by omega) (by omega), if_neg (by omega)]
    have hdn : DownOk B 0 := by
      refine ⟨fun x hx hxn hpx => ?_, fun x _ _ _ h => absurd h (by omega)⟩
      have hpl : par x < x := by unfold par; omega
      rw [gB x (by omega), gB (par x) (by omega), if_neg hpx, if_neg (by omega)]
      exact hh x hx (by omega)
    rw [hsplit] at hr1
    obtain ⟨u2, H2, B', hd, hr2, hp2, hh2, a2⟩ := down_T a1.wf hr1 hdn (by omega)
    rw [hBl] at hd
    have hl2 := hp2.length_eq
    obtain ⟨H3, y3, hpop, hr3, a3⟩ := ipop_T a2.wf hr2 (by omega)
    have hperm : (g A 0 :: B').Perm A := by
      have h1 : (B' ++ [g A 0]).Perm A := (hp2.append_right _).trans (by rw [← hsplit]; exact swp_perm (by omega) (by omega))
      exact (List.perm_append_singleton _ _).symm.trans h1
    simp [L25]
    refine goTI_of hlen ?_
    simp [c1]
    refine goTI_of hs ?_
    simp
    refine goT_of hd ?_
    simp
    refine goTI_of hpop ?_
    simp
    exact ⟨rfl, y3, B', hr3, hperm, hh2, (a1.trans a2).trans a3⟩
  obtain ⟨u, H', hT, rfl, y', A', h1, h2, h3, h4⟩ := this
  exact ⟨H', y', A', hT, h1, h2, h3, h4⟩
theorem hpush_T {H : Heap} (hw : H.WF) {q : Nat} {A : List Int} {v : Int} {y : Value} (h : HR H q A y) (hh : IsHeap A) (hl : A.length < 90000) :
    ∃ u H' y' A', T Try.prog 26 [agesI q, .iface 3 (iv v)] H u H' ∧ HR H' q A' y' ∧ A'.Perm (v :: A) ∧ IsHeap A' ∧ Aft H H' q y y' := by
  have : ∃ u H', T Try.prog 26 [agesI q, .iface 3 (iv v)] H u H' ∧ ∃ y' A', HR H' q A' y' ∧ A'.Perm (v :: A) ∧ IsHeap A' ∧ Aft H H' q y y' := by
    refine T_by hm light26 ?_
    obtain ⟨u1, H1, y1, hp, h1, a1⟩ := ipush_T (v := v) hw h (by omega)
    have hln : (A ++ [v]).length = A.length + 1 := by simp
    have hup : UpOk (A ++ [v]) A.length := by
      refine ⟨by omega, fun x hx hxn hxj => ?_, fun x hx hxn hpx h0 => ?_⟩
      · have hpl : par x < x := by unfold par; omega
        rw [g_app (by omega), g_app (by omega)]
        exact hh x hx (by omega)
      · exfalso
        unfold par at hpx
        omega
    obtain ⟨u2, H2, A', hu, hr2, hpm, hh2, a2⟩ := up_T a1.wf h1 hup (by omega)
    have hlen := ilen_T h1
    rw [hln] at hlen
    obtain ⟨n1, hn1⟩ : ∃ n1, n1 = A.length + 1 := ⟨_, rfl⟩
    rw [← hn1] at hlen
    have c1 : IntKind.i64.wrap ((n1 : Int) - 1) = (A.length : Int) := by rw [w64 _ (by omega)]; omega
    simp [L26]
    refine goTI_of hp ?_
    simp
    refine goTI_of hlen ?_
    simp [c1]
    refine goT_of hu ?_
    simp
    exact ⟨y1, A', hr2, hpm.trans (List.perm_append_singleton _ _), hh2, a1.trans a2⟩
  obtain ⟨u, H', hT, y', A', h1, h2, h3, h4⟩ := this
  exact ⟨u, H', y', A', hT, h1, h2, h3, h4⟩
end Go.Proofs.Ytadegahkgpedgaa
