/-
  Chapter 26: bounds of rounds, by both.
-/
import Derived.Test.YtnomffikflfilaaGreatSeatCD
namespace Go.Proofs.YtnomffikflfilaaGreat
open Go.Ot Go.RowKit
set_option linter.unusedSimpArgs false
set_option linter.unusedVariables false
def mx0 (a : Int) : Int := if a < 0 then 0 else a
def timesV (a b : Int) : Int := if mx0 a ≠ 0 ∧ 9223372036854775807 / mx0 a < mx0 b then 9223372036854775807 else mx0 a * mx0 b
def plusV (a b : Int) : Int := if 9223372036854775807 - mx0 b < mx0 a then 9223372036854775807 else mx0 a + mx0 b
theorem mx0_ok {a : Int} (h : okW a) : 0 ≤ mx0 a ∧ mx0 a ≤ 9223372036854775807 := by
  unfold okW at h; unfold mx0; split <;> omega
theorem mm_max (a : Int) : sMM true (iv a) [iv 0] = some (iv (mx0 a)) := by
  simp [sMM, sMinMax, mx0]
theorem timesG_T {H : Heap} (a b : Int) (ha : okW a) (hb : okW b) : T Tryz.prog 71 [iv a, iv b] H (iv (timesV a b)) H := by
  refine T_eq hm light71 ?_
  have m1 := mm_max a
  have m2 := mm_max b
  have h1 := mx0_ok ha
  have h2 := mx0_ok hb
  unfold timesV
  obtain ⟨x, hx⟩ : ∃ x, x = mx0 a := ⟨_, rfl⟩
  obtain ⟨y, hy⟩ : ∃ x, x = mx0 b := ⟨_, rfl⟩
  rw [← hx] at m1 h1 ⊢
  rw [← hy] at m2 h2 ⊢
  by_cases h0 : x = 0
  · rw [if_neg (fun h => h.1 h0)]
    rw [h0] at m1 ⊢
    simp [L71, m1, m2]
  · have h0b : (x != 0) = true := by simpa using h0
    have qd : (9223372036854775807 : Int) / x ≤ 9223372036854775807 := Int.ediv_le_self _ (by decide)
    have qd0 : 0 ≤ (9223372036854775807 : Int) / x := Int.ediv_nonneg (by decide) (by omega)
    have sq : sBin .quo (.int .i64 9223372036854775807) (iv x) = some (iv (9223372036854775807 / x)) := by
      rw [sBin_quo, if_neg h0, Int.tdiv_eq_ediv_of_nonneg (by decide), w64 _ (by omega)]
    by_cases hov : 9223372036854775807 / x < y
    · rw [if_pos ⟨h0, hov⟩]
      simp [L71, m1, m2, h0b, h0, sq, hov]
    · rw [if_neg (fun h => hov h.2)]
      have hle : x * y ≤ 9223372036854775807 := by
        have := (Int.le_ediv_iff_mul_le (a := y) (b := 9223372036854775807) (c := x) (by omega)).1 (by omega)
        rw [Int.mul_comm]; exact this
      have hge : 0 ≤ x * y := Int.mul_nonneg h1.1 h2.1
      have wm : IntKind.i64.wrap (x * y) = x * y := w64 _ (by omega)
      simp [L71, m1, m2, h0b, h0, sq, hov, wm]
theorem plus_T {H : Heap} (a b : Int) (ha : okW a) (hb : okW b) : T Tryz.prog 70 [iv a, iv b] H (iv (plusV a b)) H := by
  refine T_eq hm light70 ?_
  have m1 := mm_max a
  have m2 := mm_max b
  have h1 := mx0_ok ha
  have h2 := mx0_ok hb
  unfold plusV
  obtain ⟨x, hx⟩ : ∃ x, x = mx0 a := ⟨_, rfl⟩
  obtain ⟨y, hy⟩ : ∃ x, x = mx0 b := ⟨_, rfl⟩
  rw [← hx] at m1 h1 ⊢
  rw [← hy] at m2 h2 ⊢
  have w1 : IntKind.i64.wrap (9223372036854775807 - y) = 9223372036854775807 - y := w64 _ (by omega)
  by_cases hov : 9223372036854775807 - y < x
  · rw [if_pos hov]
    simp [L70, m1, m2, w1, hov]
  · rw [if_neg hov]
    have w2 : IntKind.i64.wrap (x + y) = x + y := w64 _ (by omega)
    simp [L70, m1, m2, w1, hov, w2]
theorem timesV_ok {a b : Int} (ha : okW a) (hb : okW b) : 0 ≤ timesV a b ∧ timesV a b ≤ 9223372036854775807 := by
  have h1 := mx0_ok ha
  have h2 := mx0_ok hb
  unfold timesV
  split
  · omega
  · rename_i h
    refine ⟨Int.mul_nonneg h1.1 h2.1, ?_⟩
    by_cases h0 : mx0 a = 0
    · rw [h0]; omega
    · have hle : ¬ 9223372036854775807 / mx0 a < mx0 b := fun g => h ⟨h0, g⟩
      have := (Int.le_ediv_iff_mul_le (a := mx0 b) (b := 9223372036854775807) (c := mx0 a) (by omega)).1 (by omega)
      rw [Int.mul_comm]; exact this
theorem plusV_ok {a b : Int} (ha : okW a) (hb : okW b) : 0 ≤ plusV a b ∧ plusV a b ≤ 9223372036854775807 := by
  have h1 := mx0_ok ha
  have h2 := mx0_ok hb
  unfold plusV
  split <;> omega
/-- Small numbers' product. -/
theorem timesV_small {a b : Int} (ha : 0 ≤ a) (hb : 0 ≤ b) (h : a * b ≤ 9223372036854775807) : timesV a b = a * b := by
  have e1 : mx0 a = a := by unfold mx0; rw [if_neg (by omega)]
  have e2 : mx0 b = b := by unfold mx0; rw [if_neg (by omega)]
  unfold timesV
  rw [e1, e2, if_neg]
  rintro ⟨h0, h1⟩
  have := (Int.ediv_lt_iff_lt_mul (a := 9223372036854775807) (b := b) (c := a) (by omega)).1 h1
  rw [Int.mul_comm] at this
  omega
theorem plusV_small {a b : Int} (ha : 0 ≤ a) (hb : 0 ≤ b) (h : a + b ≤ 9223372036854775807) : plusV a b = a + b := by
  have e1 : mx0 a = a := by unfold mx0; rw [if_neg (by omega)]
  have e2 : mx0 b = b := by unfold mx0; rw [if_neg (by omega)]
  unfold plusV
  rw [e1, e2, if_neg (by omega)]
/-! ### what may be -/
theorem cnt_ok {S : Shp} (h : (cntP S).2 = 0) : 0 ≤ (cntP S).1 ∧ (cntP S).1 ≤ 200 := by
  have hge := wayN_ge S
  unfold cntP at h ⊢
  split at h
  · rename_i h1
    rw [if_pos h1]
    split at h
    · cases h
    · rename_i h2
      rw [if_neg h2]
      split at h
      · cases h
      · rename_i h3
        rw [if_neg h3]
        simp only
        omega
  · rename_i h1
    rw [if_neg h1]
    split at h
    · rename_i h2
      rw [if_pos h2]
      split at h
      · cases h
      · rename_i h3
        rw [if_neg h3]
        simp only
        have := Int.mul_nonneg h2.2.2.2.2.1 (b := S.stages) (by omega)
        omega
    · cases h
theorem code_ne {n : Int} : ∀ (l : List (List I8.In)), (codeE n l ≠ 0 → True) := fun _ _ => trivial
structure Fine (J : Jb) (C : Cfg) (n : Int) : Prop where
  n0 : 0 ≤ n
  n200 : n ≤ 200
  f1 : 1 ≤ J.fuel
  f4000 : J.fuel ≤ 4000
  r0 : 0 ≤ C.retry
  r9 : C.retry ≤ 9
  w1 : 1 ≤ C.workers
  w8 : C.workers ≤ 8
  v1 : 1 ≤ C.window
  v32 : C.window ≤ 32
theorem fine_of {J : Jb} {C : Cfg} (hv : validE J = 0) (hr : rightE C = 0) : Fine J C (cntP J.S).1 ∧ (cntP J.S).2 = 0 := by
  unfold validE at hv
  split at hv
  · rename_i h; exact absurd hv h
  split at hv
  · rename_i h; exact absurd hv h
  split at hv
  · cases hv
  rename_i hf
  split at hv
  · rename_i h; exact absurd hv h
  rename_i hc
  have hc0 : (cntP J.S).2 = 0 := by simpa using hc
  obtain ⟨q1, q2⟩ := cnt_ok hc0
  unfold rightE at hr
  split at hr
  · cases hr
  rename_i r1
  split at hr
  · cases hr
  split at hr
  · cases hr
  split at hr
  · cases hr
  rename_i r4
  simp only [outV, manyV, Bool.or_eq_true, decide_eq_true_eq, not_or] at r1 r4
  exact ⟨⟨q1, q2, by omega, by omega, by omega, by omega, by omega, by omega, by omega, by omega⟩, hc0⟩
def boundV (J : Jb) (C : Cfg) (ab : Int) : Int × Int :=
  if validE J ≠ 0 then (0, validE J) else if rightE C ≠ 0 then (0, rightE C) else (plusV (timesV (timesV (cntP J.S).1 (C.retry + 3)) (plusV J.fuel 3)) (timesV ab (plusV J.fuel 3)), 0)
theorem bound_T {H : Heap} (hw : H.WF) {J : Jb} (ok : JbOk H J) (C : Cfg) (ab : Int) (hab : okW ab) : T Tryz.prog 30 [.agg (jobC J).toArray, .agg (cfgC C).toArray, iv ab] H (.tuple #[iv (boundV J C ab).1, iv (boundV J C ab).2]) H := by
  obtain ⟨V, hV⟩ : ∃ V : Value, V = .tuple #[iv (boundV J C ab).1, iv (boundV J C ab).2] := ⟨_, rfl⟩
  rw [← hV]
  refine T_seen hm light30 (by rw [hV]; rfl) ?_
  obtain ⟨G, hG⟩ : ∃ G, G = H.new 29 11 (jobC J) := ⟨_, rfl⟩
  have onG : On H G := by rw [hG]; exact (On.refl hw).new _ _ _
  have vG : Vr G H.next 29 11 (jobC J) := by rw [hG]; exact Vr.mk' hw _ _ _
  have nG : G.next = H.next + 1 := by rw [hG]; simp
  obtain ⟨K, hK⟩ : ∃ K, K = G.new 32 11 (cfgC C) := ⟨_, rfl⟩
  have onK : On H K := by rw [hK]; exact onG.new _ _ _
  have vJ : Vr K H.next 29 11 (jobC J) := by rw [hK]; exact vG.new onG.wf _ _ _
  have vC : Vr K (H.next + 1) 32 11 (cfgC C) := by rw [hK, ← nG]; exact Vr.mk' onG.wf _ _ _
  have okK := ok.on hw onK
  have jl := JL.of vJ
  have c9 : K.load ⟨H.next + 1, 9, none⟩ = some (iv C.retry) := vC.load 9
  have cA : K.loadN ⟨H.next + 1, 0, none⟩ 0 11 = some (cfgC C) := vC.loadA rfl
  have fin := onK.keep
  unfold boundV at hV
  simp [L30, ← hG, ← hK, nG, jl.lA]
  refine goT_of (valid_T onK.wf okK) ?_
  by_cases hv : validE J = 0
  · rw [if_neg (by simp [hv])] at hV
    rw [hv]
    simp [cA]
    refine goT_of (right_T onK.wf C) ?_
    by_cases hr : rightE C = 0
    · rw [if_neg (by simp [hr])] at hV
      rw [hr]
      obtain ⟨fn, hc0⟩ := fine_of hv hr
      obtain ⟨n0, n200, f1, f4, r0, r9, w1, w8, v1, v32⟩ := fn
      simp [jl.lS]
      refine goT_of (count_T onK.wf J.S ok.S) ?_
      simp [jl.l3]
      refine goT_of (plus_T J.fuel 3 (by unfold okW; omega) (by unfold okW; omega)) ?_
      have wr : IntKind.i64.wrap (C.retry + 3) = C.retry + 3 := w64 _ (by omega)
      have p1 := plusV_ok (a := J.fuel) (b := 3) (by unfold okW; omega) (by unfold okW; omega)
      obtain ⟨one, hone⟩ : ∃ one, one = plusV J.fuel 3 := ⟨_, rfl⟩
      rw [← hone] at p1 hV ⊢
      have t1 := timesV_ok (a := (cntP J.S).1) (b := C.retry + 3) (by unfold okW; omega) (by unfold okW; omega)
      simp [c9, wr]
      refine goT_of (timesG_T (cntP J.S).1 (C.retry + 3) (by unfold okW; omega) (by unfold okW; omega)) ?_
      obtain ⟨t, ht⟩ : ∃ t, t = timesV (cntP J.S).1 (C.retry + 3) := ⟨_, rfl⟩
      rw [← ht] at t1 hV ⊢
      simp
      refine goT_of (timesG_T t one (by unfold okW; omega) (by unfold okW; omega)) ?_
      have t2 := timesV_ok (a := t) (b := one) (by unfold okW; omega) (by unfold okW; omega)
      obtain ⟨t', ht'⟩ : ∃ t', t' = timesV t one := ⟨_, rfl⟩
      rw [← ht'] at t2 hV ⊢
      simp
      refine goT_of (timesG_T ab one hab (by unfold okW; omega)) ?_
      have t3 := timesV_ok (a := ab) (b := one) hab (by unfold okW; omega)
      obtain ⟨s, hs⟩ : ∃ s, s = timesV ab one := ⟨_, rfl⟩
      rw [← hs] at t3 hV ⊢
      simp
      refine goT_of (plus_T t' s (by unfold okW; omega) (by unfold okW; omega)) ?_
      simp [hV]
      exact fin
    · rw [if_pos hr] at hV
      have hrb : (rightE C != 0) = true := by simpa using hr
      simp [hrb, hr, hV]
      exact fin
  · rw [if_pos hv] at hV
    have hvb : (validE J != 0) = true := by simpa using hv
    simp [hvb, hv, hV]
    exact fin
end Go.Proofs.YtnomffikflfilaaGreat
