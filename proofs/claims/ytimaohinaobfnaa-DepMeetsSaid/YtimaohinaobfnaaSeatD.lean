/-
  Chapter 19: the program's Meet.
-/
import Derived.Test.YtimaohinaobfnaaSeatC
namespace Go.Proofs.Ytimaohinaobfnaa
open Go.Ot
set_option linter.unusedSimpArgs false
set_option linter.unusedVariables false
instance (z : Int) : Decidable (inB z) := inferInstanceAs (Decidable (_ ∧ _))
/-- What Meet answers. -/
noncomputable def meetF (a x b y n : Int) : Bool := if (inB a ∧ inB x ∧ inB b ∧ inB y) ∧ n ≤ 200 then meetB a x b y n else true
theorem meetF_far {a x b y n : Int} (h : ¬ ((inB a ∧ inB x ∧ inB b ∧ inB y) ∧ n ≤ 200)) : meetF a x b y n = true := if_neg h
theorem meetF_near {a x b y n : Int} (h : (inB a ∧ inB x ∧ inB b ∧ inB y) ∧ n ≤ 200) : meetF a x b y n = meetB a x b y n := if_pos h
structure Bz (x y d g u k x' y' d' : Int) : Prop where
  g0 : 0 < g
  hx : x = g * x'
  hy : y = g * y'
  hd : d = g * d'
  bz : x' * u - y' * k = 1
theorem Bz.sol {x y d g u k x' y' d' : Int} (B : Bz x y d g u k x' y' d') (p : Int) : y ∣ p * x - d ↔ y' ∣ p - u * d' := by
  have hg : g ≠ 0 := by have := B.g0; omega
  have e1 : p * x - d = g * (p * x' - d') := by rw [B.hx, B.hd]; grind
  have e2 : y ∣ p * x - d ↔ y' ∣ p * x' - d' := by
    rw [e1, B.hy]
    exact Int.mul_dvd_mul_iff_left hg
  rw [e2]
  have bz := B.bz
  constructor
  · rintro ⟨c, hc⟩
    refine ⟨c * u - p * k, ?_⟩
    grind
  · rintro ⟨c, hc⟩
    refine ⟨d' * k + c * x', ?_⟩
    grind
theorem meetNone {a x b y n g : Int} (h1 : g ∣ x) (h2 : g ∣ y) (h3 : ¬ g ∣ b - a) : ¬ meets a x b y n := by
  rintro ⟨p, q, _, _, _, _, _, h⟩
  refine h3 ?_
  have : b - a = p * x - q * y := by omega
  rw [this]
  exact Int.dvd_sub (Int.dvd_mul_of_dvd_right h1) (Int.dvd_mul_of_dvd_right h2)
theorem meetOne {a x b n c : Int} (hx : x ≠ 0) (hd : b - a = x * c) : meets a x b 0 n ↔ (0 ≤ c ∧ c < n) ∧ 1 < n := by
  constructor
  · rintro ⟨p, q, h1, h2, h3, h4, h5, h⟩
    have e : x * p = x * c := by rw [← hd]; rw [Int.mul_comm x p]; omega
    have := Int.eq_of_mul_eq_mul_left hx e
    omega
  · rintro ⟨⟨h1, h2⟩, h3⟩
    by_cases h0 : c = 0
    · exact ⟨c, 1, h1, h2, by omega, h3, by omega, by rw [Int.mul_comm]; omega⟩
    · exact ⟨c, 0, h1, h2, by omega, by omega, h0, by rw [Int.mul_comm]; omega⟩
def Inv51 (H : Heap) (a x b y n : Int) (k : Nat) (t : Tm) (H1 : Heap) : Prop :=
  ∃ i : Nat, i + k = 4 ∧ t 30 = iv i ∧ t 29 = iv 4 ∧ t 28 = .slice (some ⟨H.next, 0, none⟩) 4 0 ∧ t 0 = iv a ∧ t 1 = iv x ∧ t 2 = iv b ∧ t 3 = iv y ∧ t 4 = iv n ∧ H1 = H.new 2 1 [iv a, iv x, iv b, iv y] ∧
    ∀ j (h : j < [a, x, b, y].length), j < i → inB [a, x, b, y][j]
/-- The place where p goes to in the other row. -/
def sol (a x b y n p : Int) : Prop := ∃ q : Int, 0 ≤ q ∧ q < n ∧ p ≠ q ∧ a + p * x = b + q * y
def Inv52 (H1 : Heap) (a x b y n s p0 : Int) (k : Nat) (t : Tm) (H2 : Heap) : Prop :=
  ∃ j : Nat, (n - (p0 + s * j)).toNat = k ∧ t 21 = iv (p0 + s * j) ∧ t 19 = iv s ∧ t 0 = iv a ∧ t 1 = iv x ∧ t 2 = iv b ∧ t 3 = iv y ∧ t 4 = iv n ∧ H1 = H2 ∧ p0 + s * j ≤ 2000000 ∧ ∀ i : Nat, i < j → ¬ sol a x b y n (p0 + s * i)
set_option maxHeartbeats 1000000 in
theorem meet_T {H : Heap} (hw : H.WF) {a x b y n : Int} : T Try.prog 5 [iv a, iv x, iv b, iv y, iv n] H (.bool (meetF a x b y n)) H := by
  refine T_seen hm light5 rfl ?_
  have hnB := hw.next_ge
  simp [L5, zerosA]
  refine loop_at (Inv51 H a x b y n) 4 ?_ ?_
  · exact ⟨0, rfl, by simp, by simp, by simp, by simp, by simp, by simp, by simp, by simp, rfl, fun j _ h => absurd h (by omega)⟩
  · rintro k t H1 ⟨i, hik, t30, t29, t28, t0, t1, t2, t3, t4, rfl, hin⟩
    have keep : ∀ b', b' < H.next → (H.new 2 1 [iv a, iv x, iv b, iv y]).blk b' = H.blk b' := fun b' hb => by simp [show b' ≠ H.next by omega]
    obtain ⟨H1, hH1⟩ : ∃ H1, H1 = H.new 2 1 [iv a, iv x, iv b, iv y] := ⟨_, rfl⟩
    have ld : ∀ j, H1.load ⟨H.next, j, none⟩ = [iv a, iv x, iv b, iv y][j]? := fun j => by rw [hH1]; exact new_load hw 2 1 _ j
    rw [← hH1] at keep
    rw [← hH1]
    cases k with
    | succ k =>
      have hi : i < 4 := by omega
      have e3 : IntKind.i64.wrap ((i : Int) + 1) = ((i + 1 : Nat) : Int) := by rw [w64 _ (by omega)]; omega
      obtain ⟨i1, hi1⟩ : ∃ i1, i1 = i + 1 := ⟨_, rfl⟩
      rw [← hi1] at e3
      obtain ⟨z, hz⟩ : ∃ z, z = [a, x, b, y][i]'hi := ⟨_, rfl⟩
      have lz : H1.load ⟨H.next, i, none⟩ = some (iv z) := by
        rw [ld, hz]
        have : [iv a, iv x, iv b, iv y] = [a, x, b, y].map iv := rfl
        rw [this, List.getElem?_map, List.getElem?_eq_getElem (by simpa using hi)]
        rfl
      have hi4 : (i : Int) < 4 := by omega
      by_cases hz1 : z < -1048576
      · have : meetF a x b y n = true := meetF_far (by
          rintro ⟨⟨h1, h2, h3, h4⟩, _⟩
          have hzz : inB z := by rw [hz]; match i, hi with | 0, _ => exact h1 | 1, _ => exact h2 | 2, _ => exact h3 | 3, _ => exact h4
          have := hzz.1; omega)
        rw [this]
        simp [L5_1, t30, t29, t28, hi4, lz, hz1]
        exact keep
      · by_cases hz2 : 1048576 < z
        · have : meetF a x b y n = true := meetF_far (by
            rintro ⟨⟨h1, h2, h3, h4⟩, _⟩
            have hzz : inB z := by rw [hz]; match i, hi with | 0, _ => exact h1 | 1, _ => exact h2 | 2, _ => exact h3 | 3, _ => exact h4
            have := hzz.2; omega)
          rw [this]
          simp [L5_1, t30, t29, t28, hi4, lz, hz1, hz2]
          exact keep
        · simp [L5_1, t30, t29, t28, hi4, lz, hz1, hz2, e3]
          refine ⟨k, Nat.lt_succ_self k, i1, by omega, by simp, by simp [t29], by simp [t28], by simp [t0], by simp [t1], by simp [t2], by simp [t3], by simp [t4], hH1, ?_⟩
          intro j hj hji
          by_cases hje : j = i
          · subst hje; rw [← hz]; exact ⟨by omega, by omega⟩
          · exact hin j hj (by omega)
    | zero =>
      have i4 : i = 4 := by omega
      subst i4
      have ba : inB a := hin 0 (by simp) (by omega)
      have bx : inB x := hin 1 (by simp) (by omega)
      have bb : inB b := hin 2 (by simp) (by omega)
      have by' : inB y := hin 3 (by simp) (by omega)
      have ba' := ba; have bx' := bx; have bb' := bb; have by2 := by'
      simp only [inB] at ba' bx' bb' by2
      by_cases hn : 200 < n
      · rw [meetF_far (fun h => by have := h.2; omega)]
        simp [L5_1, t30, t29, t4, hn]
        exact keep
      rw [meetF_near ⟨⟨ba, bx, bb, by'⟩, by omega⟩]
      by_cases hz : x = 0 ∧ y = 0
      · obtain ⟨rfl, rfl⟩ := hz
        have e : meetB a 0 b 0 n = (decide (a = b) && decide (1 < n)) := by
          by_cases hab : a = b ∧ 1 < n
          · rw [meetB_true ⟨0, 1, by omega, by omega, by omega, hab.2, by omega, by omega⟩]
            simp [hab]
          · rw [meetB_false (fun ⟨p, q, h1, h2, h3, h4, h5, h6⟩ => hab ⟨by omega, by omega⟩)]
            simp at hab ⊢
            exact fun h => hab h
        rw [e]
        by_cases hab : a = b
        · subst hab
          simp [L5_1, t30, t29, t0, t1, t2, t3, t4, hn]
          exact keep
        · have : (a == b) = false := by simp [hab]
          simp [L5_1, t30, t29, t0, t1, t2, t3, t4, hn, this, hab]
          exact keep
      have hxy : x ≠ 0 ∨ -y ≠ 0 := by omega
      obtain ⟨v, H2, T2, rfl, u, w, g, k, rfl, g0, gx, gy, hk, hub, hgb⟩ := bezout_T (H := H1) (a := x) (b := -y) (by omega) (by omega) hxy
      have gy' : g ∣ y := (Int.dvd_neg).1 gy
      have ey : IntKind.i64.wrap (-y) = -y := w64 _ (by omega)
      have ed : IntKind.i64.wrap (b - a) = b - a := w64 _ (by omega)
      have gn : ¬ g = 0 := by omega
      have hb1 : (if x = 0 then y == 0 else false) = false := by
        by_cases h : x = 0
        · simp [h]; exact fun h2 => hz ⟨h, h2⟩
        · simp [h]
      have pre : ∀ (Z : Prop), (goB (x == 0) (goB (y == 0) Z True) True) = True ∨ True := fun _ => .inr trivial
      by_cases hgd : g ∣ b - a
      case neg =>
        rw [meetB_false (meetNone gx gy' hgd)]
        have hr : ((b - a).tmod g != 0) = true := by
          simp only [bne_iff_ne, ne_eq]
          intro h
          exact hgd (Int.dvd_of_tmod_eq_zero h)
        by_cases hx0 : x = 0
        · have hy0 : (y == 0) = false := by simp; omega
          subst hx0
          simp [L5_1, t30, t29, t0, t1, t2, t3, t4, hn, hy0, ey]
          refine goT_of T2 ?_
          simp [t0, t1, t2, t3, t4, ed, sBin_rem, gn, hr]
          exact keep
        · have hx0' : (x == 0) = false := by simp [hx0]
          simp [L5_1, t30, t29, t0, t1, t2, t3, t4, hn, hx0', ey]
          refine goT_of T2 ?_
          simp [t0, t1, t2, t3, t4, ed, sBin_rem, gn, hr]
          exact keep
      obtain ⟨d', hd'⟩ := hgd
      have hr : ((b - a).tmod g != 0) = false := by
        rw [hd']; simp
      by_cases hy0 : y = 0
      · subst hy0
        have hx0 : x ≠ 0 := by omega
        have hx0' : (x == 0) = false := by simp [hx0]
        have hxd : ∃ c, b - a = x * c := ⟨u * d', by rw [hd', ← hk]; grind⟩
        obtain ⟨c, hc⟩ := hxd
        have ec : (b - a).tdiv x = c := by rw [hc]; exact Int.mul_tdiv_cancel_left c hx0
        have hcb : c.natAbs ≤ 2097152 := by
          have := Int.natAbs_tdiv_le_natAbs (b - a) x
          rw [ec] at this
          omega
        have ecw : IntKind.i64.wrap c = c := w64 _ (by omega)
        have hm1 := meetOne (n := n) hx0 hc
        have em : meetB a x b 0 n = ((decide (0 ≤ c) && decide (c < n)) && decide (1 < n)) := by
          by_cases h : (0 ≤ c ∧ c < n) ∧ 1 < n
          · rw [meetB_true (hm1.2 h)]; simp [h]
          · rw [meetB_false (fun h2 => h (hm1.1 h2))]
            simp at h ⊢
            exact h
        rw [em]
        have ey0 : IntKind.i64.wrap 0 = 0 := by decide
        simp at T2
        simp [L5_1, t30, t29, t0, t1, t2, t3, t4, hn, hx0', ey0]
        refine goT_of T2 ?_
        by_cases h1 : 0 ≤ c
        · by_cases h2 : c < n
          · simp [t0, t1, t2, t3, t4, ed, sBin_rem, sBin_quo, gn, hr, hx0, ec, ecw, h1, h2]
            exact keep
          · simp [t0, t1, t2, t3, t4, ed, sBin_rem, sBin_quo, gn, hr, hx0, ec, ecw, h1, h2]
            exact keep
        · simp [t0, t1, t2, t3, t4, ed, sBin_rem, sBin_quo, gn, hr, hx0, ec, ecw, h1]
          exact keep
      -- the rows of places
      have hy0' : (y == 0) = false := by simp [hy0]
      obtain ⟨x', hx'⟩ := gx
      obtain ⟨y', hyy⟩ := gy'
      have hbz : Bz x y (b - a) g u k x' y' d' := ⟨g0, hx', hyy, hd', by
        have h1 : g * (x' * u - y' * k) = g * 1 := by rw [Int.mul_one]; conv => rhs; rw [← hk, hx', hyy]
                                                      grind
        exact Int.eq_of_mul_eq_mul_left gn h1⟩
      have hy'0 : y' ≠ 0 := by intro h; rw [h] at hyy; simp at hyy; exact hy0 hyy
      have eyg : y.tdiv g = y' := by rw [hyy]; exact Int.mul_tdiv_cancel_left y' gn
      have edg : (b - a).tdiv g = d' := by rw [hd']; exact Int.mul_tdiv_cancel_left d' gn
      have hy'b : y'.natAbs ≤ 1048576 := by
        have := Int.natAbs_tdiv_le_natAbs y g
        rw [eyg] at this; omega
      have hd'b : d'.natAbs ≤ 2097152 := by
        have := Int.natAbs_tdiv_le_natAbs (b - a) g
        rw [edg] at this; omega
      have hud := mulB hub hd'b
      have w1 : IntKind.i64.wrap y' = y' := w64 _ (by omega)
      have w2 : IntKind.i64.wrap (-y') = -y' := w64 _ (by omega)
      have w3 : IntKind.i64.wrap d' = d' := w64 _ (by omega)
      have w4 : IntKind.i64.wrap (u * d') = u * d' := w64 _ (by omega)
      obtain ⟨s, hs⟩ : ∃ s : Int, s = (y'.natAbs : Int) := ⟨_, rfl⟩
      have hs0 : 0 < s := by omega
      have hsy : s ∣ y' ∧ y' ∣ s := by rw [hs]; exact ⟨Int.natAbs_dvd.2 (Int.dvd_refl _), Int.dvd_natAbs.2 (Int.dvd_refl _)⟩
      obtain ⟨qf, Tf⟩ := floor_T (H := H2) (a := u * d') (b := s) (by omega) (by omega)
      obtain ⟨p0, hp0⟩ : ∃ p0, p0 = (u * d') % s := ⟨_, rfl⟩
      rw [← hp0] at Tf
      have hp0b : 0 ≤ p0 ∧ p0 < s := by rw [hp0]; exact ⟨Int.emod_nonneg _ (by omega), Int.emod_lt_of_pos _ hs0⟩
      have hp0d : s ∣ u * d' - p0 := by rw [hp0]; exact Int.dvd_self_sub_emod
      have hsol : ∀ p : Int, y ∣ p * x - (b - a) ↔ s ∣ p - p0 := fun p => by
        rw [hbz.sol p]
        constructor
        · intro h
          have h1 : s ∣ p - u * d' := Int.dvd_trans hsy.1 h
          have : p - p0 = (p - u * d') + (u * d' - p0) := by omega
          rw [this]; exact Int.dvd_add h1 hp0d
        · intro h
          have : p - u * d' = (p - p0) - (u * d' - p0) := by omega
          have h1 : s ∣ p - u * d' := by rw [this]; exact Int.dvd_sub h hp0d
          exact Int.dvd_trans hsy.2 h1
      have loopAt : ∀ (t' : Tm) (Q : Post), t' 21 = iv p0 → t' 19 = iv s → t' 0 = iv a → t' 1 = iv x → t' 2 = iv b → t' 3 = iv y → t' 4 = iv n →
          (∀ t2, t2 0 = iv a → Q (.exit 2) t2 (rdy H2) ∨ meetB a x b y n = true) →
          (∀ t2, t2 10 = .bool true → Q .ret t2 (rdy H2) ∨ meetB a x b y n = false) → wpA Try.prog (.loop L5_2) Q t' (rdy H2) := by
        intro t' Q g21 g19 g0' g1 g2 g3 g4 Qe Qr
        refine loop_at (Inv52 H2 a x b y n s p0) (n - p0).toNat ?_ ?_
        · exact ⟨0, by simp, by simp [g21], g19, g0', g1, g2, g3, g4, rfl, by simp; omega, fun i h => absurd h (by omega)⟩
        · rintro kk t2 H3 ⟨j, hkk, f21, f19, f0, f1, f2, f3, f4, rfl, hpb, hno⟩
          obtain ⟨p, hp⟩ : ∃ p, p = p0 + s * j := ⟨_, rfl⟩
          rw [← hp] at hkk f21 hpb
          have hpn : 0 ≤ p := by
            have : 0 ≤ s * (j : Int) := Int.mul_nonneg (by omega) (by omega)
            omega
          by_cases hpl : p < n
          · obtain ⟨q, hq⟩ : y ∣ p * x - (b - a) := (hsol p).2 ⟨j, by rw [hp]; omega⟩
            have hpx := mulB (show p.natAbs ≤ 200 by omega) (show x.natAbs ≤ 1048576 by omega)
            have v1 : IntKind.i64.wrap (p * x) = p * x := w64 _ (by omega)
            have v2 : IntKind.i64.wrap (a + p * x) = a + p * x := w64 _ (by omega)
            have v3 : IntKind.i64.wrap (a + p * x - b) = y * q := by rw [w64 _ (by omega)]; omega
            have v4 : (y * q).tdiv y = q := Int.mul_tdiv_cancel_left q hy0
            have hqb : q.natAbs ≤ 1000000000 := by
              have := Int.natAbs_tdiv_le_natAbs (y * q) y
              rw [v4] at this
              omega
            have v5 : IntKind.i64.wrap q = q := w64 _ (by omega)
            have v6 : IntKind.i64.wrap (p + s) = p + s := w64 _ (by omega)
            by_cases hf : 0 ≤ q ∧ q < n ∧ q ≠ p
            · have ht : meetB a x b y n = true := meetB_true ⟨p, q, hpn, hpl, hf.1, hf.2.1, fun h => hf.2.2 h.symm, by rw [Int.mul_comm q y]; omega⟩
              have hqp : (q != p) = true := by simp [hf.2.2]
              simp [L5_2, f21, f19, f0, f1, f2, f3, f4, hpl, v1, v2, v3, sBin_quo, hy0, v4, v5, hf.1, hf.2.1, hqp]
              refine (Qr _ ?_).resolve_right (by rw [ht]; decide)
              simp
            · have hns : ¬ sol a x b y n p := by
                rintro ⟨q', h1, h2, h3, h4⟩
                have e : y * q' = y * q := by rw [← hq, Int.mul_comm y q']; omega
                have := Int.eq_of_mul_eq_mul_left hy0 e
                subst this
                exact hf ⟨h1, h2, fun h => h3 h.symm⟩
              have fin : ∀ t3 : Tm, t3 21 = iv (p + s) → t3 19 = iv s → t3 0 = iv a → t3 1 = iv x → t3 2 = iv b → t3 3 = iv y → t3 4 = iv n → ∃ m, m < kk ∧ Inv52 H2 a x b y n s p0 m t3 H2 := by
                intro t3 e21 e19 e0 e1 e2 e3 e4
                have hp1 : p + s = p0 + s * ((j + 1 : Nat) : Int) := by rw [hp]; push_cast; grind
                refine ⟨(n - (p + s)).toNat, by omega, j + 1, by rw [hp1], by rw [e21, hp1], e19, e0, e1, e2, e3, e4, rfl, by rw [← hp1]; omega, ?_⟩
                intro i hi
                by_cases hij : i = j
                · subst hij; rw [← hp]; exact hns
                · exact hno i (by omega)
              by_cases h1 : 0 ≤ q
              · by_cases h2 : q < n
                · have h3 : (q != p) = false := by
                    have : q = p := by
                      by_cases h : q = p
                      · exact h
                      · exact absurd ⟨h1, h2, h⟩ hf
                    simp [this]
                  simp [L5_2, f21, f19, f0, f1, f2, f3, f4, hpl, v1, v2, v3, sBin_quo, hy0, v4, v5, h1, h2, h3, v6]
                  refine fin _ ?_ ?_ ?_ ?_ ?_ ?_ ?_ <;> simp [f19, f0, f1, f2, f3, f4]
                · simp [L5_2, f21, f19, f0, f1, f2, f3, f4, hpl, v1, v2, v3, sBin_quo, hy0, v4, v5, h1, h2, v6]
                  refine fin _ ?_ ?_ ?_ ?_ ?_ ?_ ?_ <;> simp [f19, f0, f1, f2, f3, f4]
              · simp [L5_2, f21, f19, f0, f1, f2, f3, f4, hpl, v1, v2, v3, sBin_quo, hy0, v4, v5, h1, v6]
                refine fin _ ?_ ?_ ?_ ?_ ?_ ?_ ?_ <;> simp [f19, f0, f1, f2, f3, f4]
          · have hf : meetB a x b y n = false := by
              refine meetB_false ?_
              rintro ⟨p', q', h1, h2, h3, h4, h5, h6⟩
              have hdv : y ∣ p' * x - (b - a) := ⟨q', by rw [Int.mul_comm y q']; omega⟩
              obtain ⟨i, hi⟩ := prog_mod hs0 hp0b h1 ((hsol p').1 hdv)
              have hij : i < j := by
                by_cases h : i < j
                · exact h
                · have h7 : s * (j : Int) ≤ s * (i : Int) := Int.mul_le_mul_of_nonneg_left (by omega) (by omega)
                  omega
              exact hno i hij (by rw [← hi]; exact ⟨q', h3, h4, h5, h6⟩)
            simp [L5_2, f21, f4, hpl]
            refine (Qe _ ?_).resolve_right (by rw [hf]; decide)
            simp [f0]
      have fin : ∀ (t' : Tm) (Q : Post), t' 21 = iv p0 → t' 19 = iv s → t' 0 = iv a → t' 1 = iv x → t' 2 = iv b → t' 3 = iv y → t' 4 = iv n →
          (∀ t2, t2 0 = iv a → meetB a x b y n = false → Q (.exit 2) t2 (rdy H2)) →
          (∀ t2, t2 10 = .bool true → meetB a x b y n = true → Q .ret t2 (rdy H2)) → wpA Try.prog (.loop L5_2) Q t' (rdy H2) := by
        intro t' Q g21 g19 g0' g1 g2 g3 g4 Qe Qr
        refine loopAt t' Q g21 g19 g0' g1 g2 g3 g4 (fun t2 h => ?_) (fun t2 h => ?_)
        · by_cases hm' : meetB a x b y n = true
          · exact .inr hm'
          · exact .inl (Qe t2 h (by simpa using hm'))
        · by_cases hm' : meetB a x b y n = true
          · exact .inl (Qr t2 h hm')
          · exact .inr (by simpa using hm')
      have hfin : ∀ (t' : Tm) (Q : Post), t' 21 = iv p0 → t' 19 = iv s → t' 0 = iv a → t' 1 = iv x → t' 2 = iv b → t' 3 = iv y → t' 4 = iv n →
          (∀ t2, meetB a x b y n = false → Q (.exit 2) t2 (rdy H2)) → (∀ t2, t2 10 = .bool true → meetB a x b y n = true → Q .ret t2 (rdy H2)) → wpA Try.prog (.loop L5_2) Q t' (rdy H2) :=
        fun t' Q g21 g19 g0' g1 g2 g3 g4 Qe Qr => fin t' Q g21 g19 g0' g1 g2 g3 g4 (fun t2 _ => Qe t2) Qr
      by_cases hx0 : x = 0
      · have hx0' : (x == 0) = true := by simp [hx0]
        by_cases hyn : y' < 0
        · skip
          have hsy' : -y' = s := by omega
          have ws : IntKind.i64.wrap s = s := w64 _ (by omega)
          simp [L5_1, t30, t29, t0, t1, t2, t3, t4, hn, hx0', hy0', ey]
          refine goT_of T2 ?_
          simp [t0, t1, t2, t3, t4, ed, sBin_rem, sBin_quo, gn, hr, hy0', eyg, edg, w1, w2, w3, w4, hyn, ws]
          rw [hsy']
          refine goT_of Tf ?_
          simp
          refine hfin _ _ ?_ ?_ ?_ ?_ ?_ ?_ ?_ (fun t9 h9 => ?_) (fun t9 h10 h9 => ?_)
          any_goals (simp [t0, t1, t2, t3, t4, hsy']; done)
          · simp [h9]; exact keep
          · simp [h9, h10]; exact keep
        · skip
          have hsy' : y' = s := by omega
          have ws : IntKind.i64.wrap s = s := w64 _ (by omega)
          simp [L5_1, t30, t29, t0, t1, t2, t3, t4, hn, hx0', hy0', ey]
          refine goT_of T2 ?_
          simp [t0, t1, t2, t3, t4, ed, sBin_rem, sBin_quo, gn, hr, hy0', eyg, edg, w1, w2, w3, w4, hyn, ws]
          rw [hsy'] at hyn ⊢
          refine goT_of Tf ?_
          simp
          refine hfin _ _ ?_ ?_ ?_ ?_ ?_ ?_ ?_ (fun t9 h9 => ?_) (fun t9 h10 h9 => ?_)
          any_goals (simp [t0, t1, t2, t3, t4, hsy']; done)
          · simp [h9]; exact keep
          · simp [h9, h10]; exact keep
      · have hx0' : (x == 0) = false := by simp [hx0]
        by_cases hyn : y' < 0
        · skip
          have hsy' : -y' = s := by omega
          have ws : IntKind.i64.wrap s = s := w64 _ (by omega)
          simp [L5_1, t30, t29, t0, t1, t2, t3, t4, hn, hx0', hy0', ey]
          refine goT_of T2 ?_
          simp [t0, t1, t2, t3, t4, ed, sBin_rem, sBin_quo, gn, hr, hy0', eyg, edg, w1, w2, w3, w4, hyn, ws]
          rw [hsy']
          refine goT_of Tf ?_
          simp
          refine hfin _ _ ?_ ?_ ?_ ?_ ?_ ?_ ?_ (fun t9 h9 => ?_) (fun t9 h10 h9 => ?_)
          any_goals (simp [t0, t1, t2, t3, t4, hsy']; done)
          · simp [h9]; exact keep
          · simp [h9, h10]; exact keep
        · skip
          have hsy' : y' = s := by omega
          have ws : IntKind.i64.wrap s = s := w64 _ (by omega)
          simp [L5_1, t30, t29, t0, t1, t2, t3, t4, hn, hx0', hy0', ey]
          refine goT_of T2 ?_
          simp [t0, t1, t2, t3, t4, ed, sBin_rem, sBin_quo, gn, hr, hy0', eyg, edg, w1, w2, w3, w4, hyn, ws]
          rw [hsy'] at hyn ⊢
          refine goT_of Tf ?_
          simp
          refine hfin _ _ ?_ ?_ ?_ ?_ ?_ ?_ ?_ (fun t9 h9 => ?_) (fun t9 h10 h9 => ?_)
          any_goals (simp [t0, t1, t2, t3, t4, hsy']; done)
          · simp [h9]; exact keep
          · simp [h9, h10]; exact keep
end Go.Proofs.Ytimaohinaobfnaa
