/-
  Chapter 26: how many tasks a shape has (carried over from chapter 25).
-/
import Derived.Test.YtnomffikflfilaaGreatSeatBB
namespace Go.Proofs.YtnomffikflfilaaGreat
open Go.Ot Go.RowKit
set_option linter.unusedSimpArgs false
set_option linter.unusedVariables false
def okW (n : Int) : Prop := -9223372036854775808 ≤ n ∧ n ≤ 9223372036854775807
structure Shp where
  kind : Int
  lo : Int
  hi : Int
  step : Int
  items : Int
  stages : Int
structure ShpOk (S : Shp) : Prop where
  lo : okW S.lo
  hi : okW S.hi
  step : okW S.step
  items : okW S.items
  stages : okW S.stages
abbrev shpC (S : Shp) : List Value := [iv S.kind, iv S.lo, iv S.hi, iv S.step, iv S.items, iv S.stages]
/-- How many numbers there are on the way. -/
def wayN (S : Shp) : Int :=
  if 0 < S.step then (if S.lo < S.hi then (S.hi - S.lo - 1) / S.step + 1 else 0) else (if S.hi < S.lo then (S.lo - S.hi - 1) / (-S.step) + 1 else 0)
def cntP (S : Shp) : Int × Int :=
  if S.kind = 1 ∧ S.items = 0 ∧ S.stages = 0 then (if S.step = 0 then (0, 150) else if 200 < wayN S then (0, 151) else (wayN S, 0))
  else if S.kind = 2 ∧ S.lo = 0 ∧ S.hi = 0 ∧ S.step = 0 ∧ 0 ≤ S.items ∧ 1 ≤ S.stages ∧ S.stages ≤ 6 then (if 200 < S.items * S.stages then (0, 151) else (S.items * S.stages, 0))
  else (0, 152)
def loopV (S : Shp) : Int × Int := if S.step = 0 then (0, 150) else if 200 < wayN S then (0, 151) else (wayN S, 0)
theorem wayN_ge (S : Shp) : 0 ≤ wayN S := by
  unfold wayN
  split
  · split
    · have := Int.ediv_nonneg (a := S.hi - S.lo - 1) (b := S.step) (by omega) (by omega); omega
    · omega
  · split
    · rename_i h1 h2
      have := Int.ediv_nonneg (a := S.lo - S.hi - 1) (b := -S.step) (by omega) (by omega); omega
    · omega
theorem u64_sub (a b : Int) (ha : okW a) (hb : okW b) (h : b ≤ a) : IntKind.u64.wrap (IntKind.u64.wrap a - IntKind.u64.wrap b) = a - b := by
  unfold okW at ha hb
  have e : ∀ n : Int, IntKind.u64.wrap n = n % 18446744073709551616 := fun n => by simp [IntKind.wrap, IntKind.bits, IntKind.signed]
  rw [e, e, e]
  omega
theorem u64_neg (a : Int) : IntKind.u64.wrap (-(IntKind.u64.wrap a)) = IntKind.u64.wrap (-a) := by
  have e : ∀ n : Int, IntKind.u64.wrap n = n % 18446744073709551616 := fun n => by simp [IntKind.wrap, IntKind.bits, IntKind.signed]
  rw [e, e, e]
  omega
theorem loop_T {H : Heap} (hw : H.WF) (S : Shp) (ok : ShpOk S) : T Tryz.prog 102 [.agg (shpC S).toArray] H (.tuple #[iv (loopV S).1, iv (loopV S).2]) H := by
  obtain ⟨V, hV⟩ : ∃ V : Value, V = .tuple #[iv (loopV S).1, iv (loopV S).2] := ⟨_, rfl⟩
  rw [← hV]
  refine T_seen hm light102 (by rw [hV]; rfl) ?_
  have vr : Vr (H.new 26 6 (shpC S)) H.next 26 6 (shpC S) := Vr.mk' hw _ _ _
  have on : On H (H.new 26 6 (shpC S)) := (On.refl hw).new _ _ _
  obtain ⟨G, hG⟩ : ∃ G, G = H.new 26 6 (shpC S) := ⟨_, rfl⟩
  rw [← hG] at vr on
  have l1 : G.load ⟨H.next, 1, none⟩ = some (iv S.lo) := vr.load 1
  have l2 : G.load ⟨H.next, 2, none⟩ = some (iv S.hi) := vr.load 2
  have l3 : G.load ⟨H.next, 3, none⟩ = some (iv S.step) := vr.load 3
  obtain ⟨o1, o2, o3, o4, o5⟩ := ok
  have e : ∀ n : Int, IntKind.u64.wrap n = n % 18446744073709551616 := fun n => by simp [IntKind.wrap, IntKind.bits, IntKind.signed]
  have o1' := o1
  have o2' := o2
  have o3' := o3
  unfold okW at o1 o2 o3
  by_cases h0 : S.step = 0
  · have : loopV S = (0, 150) := by unfold loopV; rw [if_pos h0]
    rw [this] at hV
    rw [h0] at l3
    simp [L102, ← hG, l3, hV]
    exact on.keep
  · have h0b : (S.step == 0) = false := by simpa using h0
    have hL : loopV S = if 200 < wayN S then (0, 151) else (wayN S, 0) := by unfold loopV; rw [if_neg h0]
    have hge := wayN_ge S
    -- what is left, when the width and the step are known
    by_cases hs : S.step < 0
    · have hns : ¬ 0 < S.step := by omega
      by_cases hem : S.lo ≤ S.hi
      · have hN : wayN S = 0 := by unfold wayN; rw [if_neg hns, if_neg (by omega)]
        rw [hL, hN] at hV
        have hV : V = .tuple #[iv 0, iv 0] := by simpa using hV
        simp [L102, ← hG, l1, l2, l3, h0b, hs, hem, hV]
        exact on.keep
      · obtain ⟨W, hW⟩ : ∃ W, W = S.lo - S.hi := ⟨_, rfl⟩
        have wW : IntKind.u64.wrap (-(IntKind.u64.wrap (IntKind.u64.wrap S.hi - IntKind.u64.wrap S.lo))) = W := by
          rw [e, e, e, e]; omega
        have wS : IntKind.u64.wrap (-(IntKind.u64.wrap S.step)) = -S.step := by rw [e, e]; omega
        have w1 : IntKind.u64.wrap (W - 1) = W - 1 := by rw [e]; omega
        obtain ⟨st, hst⟩ : ∃ st, st = -S.step := ⟨_, rfl⟩
        rw [← hst] at wS
        have hN : wayN S = (W - 1) / st + 1 := by unfold wayN; rw [if_neg hns, if_pos (by omega), hW, hst]
        have qle : (W - 1) / st ≤ W - 1 := Int.ediv_le_self _ (by omega)
        have qge : 0 ≤ (W - 1) / st := Int.ediv_nonneg (by omega) (by omega)
        have sq : sBin .quo (.int .u64 (W - 1)) (.int .u64 st) = some (.int .u64 ((W - 1) / st)) := by
          rw [sBin_quo, if_neg (by omega), Int.tdiv_eq_ediv_of_nonneg (by omega), e]
          congr 2; omega
        obtain ⟨q, hq⟩ : ∃ q, q = (W - 1) / st := ⟨_, rfl⟩
        rw [← hq] at sq hN qle qge
        have w2 : IntKind.u64.wrap (q + 1) = q + 1 := by rw [e]; omega
        rw [hL, hN] at hV
        by_cases hb : 200 < q + 1
        · rw [if_pos hb] at hV
          simp [L102, ← hG, l1, l2, l3, h0b, hs, hem, wW, wS, w1, sq, w2, hb, hV]
          exact on.keep
        · rw [if_neg hb] at hV
          have w3 : IntKind.i64.wrap (q + 1) = q + 1 := w64 _ (by omega)
          simp [L102, ← hG, l1, l2, l3, h0b, hs, hem, wW, wS, w1, sq, w2, hb, w3, hV]
          exact on.keep
    · have hps : 0 < S.step := by omega
      by_cases hem : S.hi ≤ S.lo
      · have hN : wayN S = 0 := by unfold wayN; rw [if_pos hps, if_neg (by omega)]
        rw [hL, hN] at hV
        have hV : V = .tuple #[iv 0, iv 0] := by simpa using hV
        simp [L102, ← hG, l1, l2, l3, h0b, hs, hem, hV]
        exact on.keep
      · obtain ⟨W, hW⟩ : ∃ W, W = S.hi - S.lo := ⟨_, rfl⟩
        have wW : IntKind.u64.wrap (IntKind.u64.wrap S.hi - IntKind.u64.wrap S.lo) = W := by
          rw [e, e, e]; omega
        have wS : IntKind.u64.wrap S.step = S.step := by rw [e]; omega
        have w1 : IntKind.u64.wrap (W - 1) = W - 1 := by rw [e]; omega
        have hN : wayN S = (W - 1) / S.step + 1 := by unfold wayN; rw [if_pos hps, if_pos (by omega), hW]
        have qle : (W - 1) / S.step ≤ W - 1 := Int.ediv_le_self _ (by omega)
        have qge : 0 ≤ (W - 1) / S.step := Int.ediv_nonneg (by omega) (by omega)
        have sq : sBin .quo (.int .u64 (W - 1)) (.int .u64 S.step) = some (.int .u64 ((W - 1) / S.step)) := by
          rw [sBin_quo, if_neg (by omega), Int.tdiv_eq_ediv_of_nonneg (by omega), e]
          congr 2; omega
        obtain ⟨q, hq⟩ : ∃ q, q = (W - 1) / S.step := ⟨_, rfl⟩
        rw [← hq] at sq hN qle qge
        have w2 : IntKind.u64.wrap (q + 1) = q + 1 := by rw [e]; omega
        rw [hL, hN] at hV
        by_cases hb : 200 < q + 1
        · rw [if_pos hb] at hV
          simp [L102, ← hG, l1, l2, l3, h0b, hs, hem, wW, wS, w1, sq, w2, hb, hV]
          exact on.keep
        · rw [if_neg hb] at hV
          have w3 : IntKind.i64.wrap (q + 1) = q + 1 := w64 _ (by omega)
          simp [L102, ← hG, l1, l2, l3, h0b, hs, hem, wW, wS, w1, sq, w2, hb, w3, hV]
          exact on.keep
theorem mul_over {a b : Int} (ha : 0 ≤ a) (hb : 1 ≤ b) (hb6 : b ≤ 6) : 200 / b < a ↔ 200 < a * b := by
  rw [Int.ediv_lt_iff_lt_mul (by omega)]
theorem count_T {H : Heap} (hw : H.WF) (S : Shp) (ok : ShpOk S) : T Tryz.prog 63 [.agg (shpC S).toArray] H (.tuple #[iv (cntP S).1, iv (cntP S).2]) H := by
  obtain ⟨V, hV⟩ : ∃ V : Value, V = .tuple #[iv (cntP S).1, iv (cntP S).2] := ⟨_, rfl⟩
  rw [← hV]
  refine T_seen hm light63 (by rw [hV]; rfl) ?_
  have vr : Vr (H.new 26 6 (shpC S)) H.next 26 6 (shpC S) := Vr.mk' hw _ _ _
  have on : On H (H.new 26 6 (shpC S)) := (On.refl hw).new _ _ _
  obtain ⟨G, hG⟩ : ∃ G, G = H.new 26 6 (shpC S) := ⟨_, rfl⟩
  rw [← hG] at vr on
  have l0 : G.load ⟨H.next, 0, none⟩ = some (iv S.kind) := vr.load 0
  have l1 : G.load ⟨H.next, 1, none⟩ = some (iv S.lo) := vr.load 1
  have l2 : G.load ⟨H.next, 2, none⟩ = some (iv S.hi) := vr.load 2
  have l3 : G.load ⟨H.next, 3, none⟩ = some (iv S.step) := vr.load 3
  have l4 : G.load ⟨H.next, 4, none⟩ = some (iv S.items) := vr.load 4
  have l5 : G.load ⟨H.next, 5, none⟩ = some (iv S.stages) := vr.load 5
  have lA : G.loadN ⟨H.next, 0, none⟩ 0 6 = some (shpC S) := vr.loadA rfl
  have err : cntP S = (0, 152) → V = .tuple #[iv 0, iv 152] := fun h => by rw [hV, h]
  unfold cntP at hV err
  by_cases k1 : S.kind = 1
  · have k1b : (S.kind == 1) = true := by simpa using k1
    have ne2 : ¬ (S.kind = 2 ∧ S.lo = 0 ∧ S.hi = 0 ∧ S.step = 0 ∧ 0 ≤ S.items ∧ 1 ≤ S.stages ∧ S.stages ≤ 6) := fun h => by omega
    rw [k1] at l0
    by_cases h4 : S.items = 0
    · by_cases h5 : S.stages = 0
      · rw [if_pos ⟨k1, h4, h5⟩] at hV
        have lT := loop_T on.wf S ok
        unfold loopV at lT
        rw [← hV] at lT
        obtain ⟨x, y, hxy⟩ : ∃ x y, V = .tuple #[iv x, iv y] := ⟨_, _, hV⟩
        rw [h4] at l4
        rw [h5] at l5
        rw [hxy] at lT ⊢
        simp [L63, ← hG, l0, l4, l5, lA]
        refine goT_of lT ?_
        simp
        exact on.keep
      · have hn : ¬ (S.kind = 1 ∧ S.items = 0 ∧ S.stages = 0) := fun h => h5 h.2.2
        have hV := err (by rw [if_neg hn, if_neg ne2])
        have h5b : (S.stages != 0) = true := by simpa using h5
        rw [h4] at l4
        simp [L63, ← hG, l0, l4, l5, h5b, h5, hV]
        exact on.keep
    · have hn : ¬ (S.kind = 1 ∧ S.items = 0 ∧ S.stages = 0) := fun h => h4 h.2.1
      have hV := err (by rw [if_neg hn, if_neg ne2])
      have h4b : (S.items != 0) = true := by simpa using h4
      simp [L63, ← hG, l0, l4, h4b, h4, hV]
      exact on.keep
  · have k1b : (S.kind == 1) = false := by simpa using k1
    have hn : ¬ (S.kind = 1 ∧ S.items = 0 ∧ S.stages = 0) := fun h => k1 h.1
    rw [if_neg hn] at hV err
    by_cases k2 : S.kind = 2
    · have bad : ¬ (S.lo = 0 ∧ S.hi = 0 ∧ S.step = 0 ∧ 0 ≤ S.items ∧ 1 ≤ S.stages ∧ S.stages ≤ 6) → V = .tuple #[iv 0, iv 152] := fun h => err (by rw [if_neg (fun g => h g.2)])
      rw [k2] at l0
      by_cases h1 : S.lo = 0
      · by_cases h2 : S.hi = 0
        · by_cases h3 : S.step = 0
          · rw [h1] at l1
            rw [h2] at l2
            rw [h3] at l3
            by_cases h4 : S.items < 0
            · have hV := bad (fun g => by omega)
              simp [L63, ← hG, l0, l1, l2, l3, l4, h4, hV]
              exact on.keep
            · by_cases h5 : S.stages < 1
              · have hV := bad (fun g => by omega)
                simp [L63, ← hG, l0, l1, l2, l3, l4, l5, h4, h5, hV]
                exact on.keep
              · by_cases h6 : 6 < S.stages
                · have hV := bad (fun g => by omega)
                  simp [L63, ← hG, l0, l1, l2, l3, l4, l5, h4, h5, h6, hV]
                  exact on.keep
                · rw [if_pos ⟨k2, h1, h2, h3, by omega, by omega, by omega⟩] at hV
                  have hmo := mul_over (a := S.items) (b := S.stages) (by omega) (by omega) (by omega)
                  have hd : 200 / S.stages ≤ 200 := Int.ediv_le_self _ (by decide)
                  have hd0 : 0 ≤ 200 / S.stages := Int.ediv_nonneg (by decide) (by omega)
                  have sq : sBin .quo (.int .i64 200) (iv S.stages) = some (iv (200 / S.stages)) := by
                    rw [sBin_quo, if_neg (by omega), Int.tdiv_eq_ediv_of_nonneg (by decide), w64 _ (by omega)]
                  by_cases hb : 200 / S.stages < S.items
                  · rw [if_pos (hmo.1 hb)] at hV
                    simp [L63, ← hG, l0, l1, l2, l3, l4, l5, h4, h5, h6, sq, hb, hV]
                    exact on.keep
                  · have hb2 : ¬ 200 < S.items * S.stages := fun h => hb (hmo.2 h)
                    have h0 : 0 ≤ S.items * S.stages := Int.mul_nonneg (by omega) (by omega)
                    have wm : IntKind.i64.wrap (S.items * S.stages) = S.items * S.stages := w64 _ (by omega)
                    rw [if_neg hb2] at hV
                    simp [L63, ← hG, l0, l1, l2, l3, l4, l5, h4, h5, h6, sq, hb, wm, hV]
                    exact on.keep
          · have hV := bad (fun g => h3 g.2.2.1)
            have h3b : (S.step != 0) = true := by simpa using h3
            rw [h1] at l1
            rw [h2] at l2
            simp [L63, ← hG, l0, l1, l2, l3, h3b, h3, hV]
            exact on.keep
        · have hV := bad (fun g => h2 g.2.1)
          have h2b : (S.hi != 0) = true := by simpa using h2
          rw [h1] at l1
          simp [L63, ← hG, l0, l1, l2, h2b, h2, hV]
          exact on.keep
      · have hV := bad (fun g => h1 g.1)
        have h1b : (S.lo != 0) = true := by simpa using h1
        simp [L63, ← hG, l0, l1, h1b, h1, hV]
        exact on.keep
    · have k2b : (S.kind == 2) = false := by simpa using k2
      have hV := err (by rw [if_neg (fun g => k2 g.1)])
      simp [L63, ← hG, l0, k1b, k2b, k1, k2, hV]
      exact on.keep
def stgV (S : Shp) : Int := if S.kind = 2 then S.stages else 1
theorem stages_T {H : Heap} (hw : H.WF) (S : Shp) : T Tryz.prog 86 [.agg (shpC S).toArray] H (iv (stgV S)) H := by
  obtain ⟨V, hV⟩ : ∃ V, V = stgV S := ⟨_, rfl⟩
  rw [← hV]
  refine T_seen hm light86 rfl ?_
  have vr : Vr (H.new 26 6 (shpC S)) H.next 26 6 (shpC S) := Vr.mk' hw _ _ _
  have on : On H (H.new 26 6 (shpC S)) := (On.refl hw).new _ _ _
  obtain ⟨G, hG⟩ : ∃ G, G = H.new 26 6 (shpC S) := ⟨_, rfl⟩
  rw [← hG] at vr on
  have l0 : G.load ⟨H.next, 0, none⟩ = some (iv S.kind) := vr.load 0
  have l5 : G.load ⟨H.next, 5, none⟩ = some (iv S.stages) := vr.load 5
  unfold stgV at hV
  by_cases k2 : S.kind = 2
  · have k2b : (S.kind == 2) = true := by simpa using k2
    rw [if_pos k2] at hV
    simp [L86, ← hG, l0, k2b, l5, hV]
    exact on.keep
  · have k2b : (S.kind == 2) = false := by simpa using k2
    rw [if_neg k2] at hV
    simp [L86, ← hG, l0, k2b, hV]
    exact on.keep
end Go.Proofs.YtnomffikflfilaaGreat
