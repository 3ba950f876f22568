/-
  Chapter 26: how many tasks a shape has (carried over from chapter 25). Chapter 26: reductions: which may be; a heap of them made anew (carried over from chapter 25).
-/
import Derived.Test.YtnomffikflfilaaGreatSeatBA
namespace Go.Proofs.YtnomffikflfilaaGreat
open Go.Ot Go.RowKit
set_option linter.unusedSimpArgs false
set_option linter.unusedVariables false
def okW (n : Int) : Prop := -9223372036854775808 ≤ n ∧ n ≤ 9223372036854775807
structure Shp where
  kind : Int
  lo : Int
  hi : Int
  step : Int
  items : Int
  stages : Int
structure ShpOk (S : Shp) : Prop where
  lo : okW S.lo
  hi : okW S.hi
  step : okW S.step
  items : okW S.items
  stages : okW S.stages
abbrev shpC (S : Shp) : List Value := [iv S.kind, iv S.lo, iv S.hi, iv S.step, iv S.items, iv S.stages]
def wayN (S : Shp) : Int :=
  if 0 < S.step then (if S.lo < S.hi then (S.hi - S.lo - 1) / S.step + 1 else 0) else (if S.hi < S.lo then (S.lo - S.hi - 1) / (-S.step) + 1 else 0)
def cntP (S : Shp) : Int × Int :=
  if S.kind = 1 ∧ S.items = 0 ∧ S.stages = 0 then (if S.step = 0 then (0, 150) else if 200 < wayN S then (0, 151) else (wayN S, 0))
  else if S.kind = 2 ∧ S.lo = 0 ∧ S.hi = 0 ∧ S.step = 0 ∧ 0 ≤ S.items ∧ 1 ≤ S.stages ∧ S.stages ≤ 6 then (if 200 < S.items * S.stages then (0, 151) else (S.items * S.stages, 0))
  else (0, 152)
def loopV (S : Shp) : Int × Int := if S.step = 0 then (0, 150) else if 200 < wayN S then (0, 151) else (wayN S, 0)
theorem wayN_ge (S : Shp) : 0 ≤ wayN S := by
  unfold wayN
  split
  · split
    · have := Int.ediv_nonneg (a := S.hi - S.lo - 1) (b := S.step) (by omega) (by omega); omega
    · omega
  · split
    · rename_i h1 h2
      have := Int.ediv_nonneg (a := S.lo - S.hi - 1) (b := -S.step) (by omega) (by omega); omega
    · omega
theorem loop_T {H : Heap} (hw : H.WF) (S : Shp) (ok : ShpOk S) : T Tryz.prog 102 [.agg (shpC S).toArray] H (.tuple #[iv (loopV S).1, iv (loopV S).2]) H := by
  obtain ⟨V, hV⟩ : ∃ V : Value, V = .tuple #[iv (loopV S).1, iv (loopV S).2] := ⟨_, rfl⟩
  rw [← hV]
  refine T_seen hm light102 (by rw [hV]; rfl) ?_
  have vr : Vr (H.new 26 6 (shpC S)) H.next 26 6 (shpC S) := Vr.mk' hw _ _ _
  have on : On H (H.new 26 6 (shpC S)) := (On.refl hw).new _ _ _
  obtain ⟨G, hG⟩ : ∃ G, G = H.new 26 6 (shpC S) := ⟨_, rfl⟩
  rw [← hG] at vr on
  have l1 : G.load ⟨H.next, 1, none⟩ = some (iv S.lo) := vr.load 1
  have l2 : G.load ⟨H.next, 2, none⟩ = some (iv S.hi) := vr.load 2
  have l3 : G.load ⟨H.next, 3, none⟩ = some (iv S.step) := vr.load 3
  obtain ⟨o1, o2, o3, o4, o5⟩ := ok
  have e : ∀ n : Int, IntKind.u64.wrap n = n % 18446744073709551616 := fun n => by simp [IntKind.wrap, IntKind.bits, IntKind.signed]
  have o1' := o1
  have o2' := o2
  have o3' := o3
  unfold okW at o1 o2 o3
  by_cases h0 : S.step = 0
  · have : loopV S = (0, 150) := by unfold loopV; rw [if_pos h0]
    rw [this] at hV
    rw [h0] at l3
    simp [L102, ← hG, l3, hV]
    exact on.keep
  · have h0b : (S.step == 0) = false := by simpa using h0
    have hL : loopV S = if 200 < wayN S then (0, 151) else (wayN S, 0) := by unfold loopV; rw [if_neg h0]
    have hge := wayN_ge S
    by_cases hs : S.step < 0
    · have hns : ¬ 0 < S.step := by omega
      by_cases hem : S.lo ≤ S.hi
      · have hN : wayN S = 0 := by unfold wayN; rw [if_neg hns, if_neg (by omega)]
        rw [hL, hN] at hV
        have hV : V = .tuple #[iv 0, iv 0] := by simpa using hV
        simp [L102, ← hG, l1, l2, l3, h0b, hs, hem, hV]
        exact on.keep
      · obtain ⟨W, hW⟩ : ∃ W, W = S.lo - S.hi := ⟨_, rfl⟩
        have wW : IntKind.u64.wrap (-(IntKind.u64.wrap (IntKind.u64.wrap S.hi - IntKind.u64.wrap S.lo))) = W := by
          rw [e, e, e, e]; omega
        have wS : IntKind.u64.wrap (-(IntKind.u64.wrap S.step)) = -S.step := by rw [e, e]; omega
        have w1 : IntKind.u64.wrap (W - 1) = W - 1 := by rw [e]; omega
        obtain ⟨st, hst⟩ : ∃ st, st = -S.step := ⟨_, rfl⟩
        rw [← hst] at wS
        have hN : wayN S = (W - 1) / st + 1 := by unfold wayN; rw [if_neg hns, if_pos (by omega), hW, hst]
        have qle : (W - 1) / st ≤ W - 1 := Int.ediv_le_self _ (by omega)
        have qge : 0 ≤ (W - 1) / st := Int.ediv_nonneg (by omega) (by omega)
        have sq : sBin .quo (.int .u64 (W - 1)) (.int .u64 st) = some (.int .u64 ((W - 1) / st)) := by
          rw [sBin_quo, if_neg (by omega), Int.tdiv_eq_ediv_of_nonneg (by omega), e]
          congr 2; omega
        obtain ⟨q, hq⟩ : ∃ q, q = (W - 1) / st := ⟨_, rfl⟩
        rw [← hq] at sq hN qle qge
        have w2 : IntKind.u64.wrap (q + 1) = q + 1 := by rw [e]; omega
        rw [hL, hN] at hV
        by_cases hb : 200 < q + 1
        · rw [if_pos hb] at hV
          simp [L102, ← hG, l1, l2, l3, h0b, hs, hem, wW, wS, w1, sq, w2, hb, hV]
          exact on.keep
        · rw [if_neg hb] at hV
          have w3 : IntKind.i64.wrap (q + 1) = q + 1 := w64 _ (by omega)
          simp [L102, ← hG, l1, l2, l3, h0b, hs, hem, wW, wS, w1, sq, w2, hb, w3, hV]
          exact on.keep
    · have hps : 0 < S.step := by omega
      by_cases hem : S.hi ≤ S.lo
      · have hN : wayN S = 0 := by unfold wayN; rw [if_pos hps, if_neg (by omega)]
        rw [hL, hN] at hV
        have hV : V = .tuple #[iv 0, iv 0] := by simpa using hV
        simp [L102, ← hG, l1, l2, l3, h0b, hs, hem, hV]
        exact on.keep
      · obtain ⟨W, hW⟩ : ∃ W, W = S.hi - S.lo := ⟨_, rfl⟩
        have wW : IntKind.u64.wrap (IntKind.u64.wrap S.hi - IntKind.u64.wrap S.lo) = W := by
          rw [e, e, e]; omega
        have wS : IntKind.u64.wrap S.step = S.step := by rw [e]; omega
        have w1 : IntKind.u64.wrap (W - 1) = W - 1 := by rw [e]; omega
        have hN : wayN S = (W - 1) / S.step + 1 := by unfold wayN; rw [if_pos hps, if_pos (by omega), hW]
        have qle : (W - 1) / S.step ≤ W - 1 := Int.ediv_le_self _ (by omega)
        have qge : 0 ≤ (W - 1) / S.step := Int.ediv_nonneg (by omega) (by omega)
        have sq : sBin .quo (.int .u64 (W - 1)) (.int .u64 S.step) = some (.int .u64 ((W - 1) / S.step)) := by
          rw [sBin_quo, if_neg (by omega), Int.tdiv_eq_ediv_of_nonneg (by omega), e]
          congr 2; omega
        obtain ⟨q, hq⟩ : ∃ q, q = (W - 1) / S.step := ⟨_, rfl⟩
        rw [← hq] at sq hN qle qge
        have w2 : IntKind.u64.wrap (q + 1) = q + 1 := by rw [e]; omega
        rw [hL, hN] at hV
        by_cases hb : 200 < q + 1
        · rw [if_pos hb] at hV
          simp [L102, ← hG, l1, l2, l3, h0b, hs, hem, wW, wS, w1, sq, w2, hb, hV]
          exact on.keep
        · rw [if_neg hb] at hV
          have w3 : IntKind.i64.wrap (q + 1) = q + 1 := w64 _ (by omega)
          simp [L102, ← hG, l1, l2, l3, h0b, hs, hem, wW, wS, w1, sq, w2, hb, w3, hV]
          exact on.keep
theorem mul_over {a b : Int} (ha : 0 ≤ a) (hb : 1 ≤ b) (hb6 : b ≤ 6) : 200 / b < a ↔ 200 < a * b := by
  rw [Int.ediv_lt_iff_lt_mul (by omega)]
theorem count_T {H : Heap} (hw : H.WF) (S : Shp) (ok : ShpOk S) : T Tryz.prog 63 [.agg (shpC S).toArray] H (.tuple #[iv (cntP S).1, iv (cntP S).2]) H := by
  obtain ⟨V, hV⟩ : ∃ V : Value, V = .tuple #[iv (cntP S).1, iv (cntP S).2] := ⟨_, rfl⟩
  rw [← hV]
  refine T_seen hm light63 (by rw [hV]; rfl) ?_
  have vr : Vr (H.new 26 6 (shpC S)) H.next 26 6 (shpC S) := Vr.mk' hw _ _ _
  have on : On H (H.new 26 6 (shpC S)) := (On.refl hw).new _ _ _
  obtain ⟨G, hG⟩ : ∃ G, G = H.new 26 6 (shpC S) := ⟨_, rfl⟩
  rw [← hG] at vr on
  have l0 : G.load ⟨H.next, 0, none⟩ = some (iv S.kind) := vr.load 0
  have l1 : G.load ⟨H.next, 1, none⟩ = some (iv S.lo) := vr.load 1
  have l2 : G.load ⟨H.next, 2, none⟩ = some (iv S.hi) := vr.load 2
  have l3 : G.load ⟨H.next, 3, none⟩ = some (iv S.step) := vr.load 3
  have l4 : G.load ⟨H.next, 4, none⟩ = some (iv S.items) := vr.load 4
  have l5 : G.load ⟨H.next, 5, none⟩ = some (iv S.stages) := vr.load 5
  have lA : G.loadN ⟨H.next, 0, none⟩ 0 6 = some (shpC S) := vr.loadA rfl
  have err : cntP S = (0, 152) → V = .tuple #[iv 0, iv 152] := fun h => by rw [hV, h]
  unfold cntP at hV err
  by_cases k1 : S.kind = 1
  · have k1b : (S.kind == 1) = true := by simpa using k1
    have ne2 : ¬ (S.kind = 2 ∧ S.lo = 0 ∧ S.hi = 0 ∧ S.step = 0 ∧ 0 ≤ S.items ∧ 1 ≤ S.stages ∧ S.stages ≤ 6) := fun h => by omega
    rw [k1] at l0
    by_cases h4 : S.items = 0
    · by_cases h5 : S.stages = 0
      · rw [if_pos ⟨k1, h4, h5⟩] at hV
        have lT := loop_T on.wf S ok
        unfold loopV at lT
        rw [← hV] at lT
        obtain ⟨x, y, hxy⟩ : ∃ x y, V = .tuple #[iv x, iv y] := ⟨_, _, hV⟩
        rw [h4] at l4
        rw [h5] at l5
        rw [hxy] at lT ⊢
        simp [L63, ← hG, l0, l4, l5, lA]
        refine goT_of lT ?_
        simp
        exact on.keep
      · have hn : ¬ (S.kind = 1 ∧ S.items = 0 ∧ S.stages = 0) := fun h => h5 h.2.2
        have hV := err (by rw [if_neg hn, if_neg ne2])
        have h5b : (S.stages != 0) = true := by simpa using h5
        rw [h4] at l4
        simp [L63, ← hG, l0, l4, l5, h5b, h5, hV]
        exact on.keep
    · have hn : ¬ (S.kind = 1 ∧ S.items = 0 ∧ S.stages = 0) := fun h => h4 h.2.1
      have hV := err (by rw [if_neg hn, if_neg ne2])
      have h4b : (S.items != 0) = true := by simpa using h4
      simp [L63, ← hG, l0, l4, h4b, h4, hV]
      exact on.keep
  · have k1b : (S.kind == 1) = false := by simpa using k1
    have hn : ¬ (S.kind = 1 ∧ S.items = 0 ∧ S.stages = 0) := fun h => k1 h.1
    rw [if_neg hn] at hV err
    by_cases k2 : S.kind = 2
    · have bad : ¬ (S.lo = 0 ∧ S.hi = 0 ∧ S.step = 0 ∧ 0 ≤ S.items ∧ 1 ≤ S.stages ∧ S.stages ≤ 6) → V = .tuple #[iv 0, iv 152] := fun h => err (by rw [if_neg (fun g => h g.2)])
      rw [k2] at l0
      by_cases h1 : S.lo = 0
      · by_cases h2 : S.hi = 0
        · by_cases h3 : S.step = 0
          · rw [h1] at l1
            rw [h2] at l2
            rw [h3] at l3
            by_cases h4 : S.items < 0
            · have hV := bad (fun g => by omega)
              simp [L63, ← hG, l0, l1, l2, l3, l4, h4, hV]
              exact on.keep
            · by_cases h5 : S.stages < 1
              · have hV := bad (fun g => by omega)
                simp [L63, ← hG, l0, l1, l2, l3, l4, l5, h4, h5, hV]
                exact on.keep
              · by_cases h6 : 6 < S.stages
                · have hV := bad (fun g => by omega)
                  simp [L63, ← hG, l0, l1, l2, l3, l4, l5, h4, h5, h6, hV]
                  exact on.keep
                · rw [if_pos ⟨k2, h1, h2, h3, by omega, by omega, by omega⟩] at hV
                  have hmo := mul_over (a := S.items) (b := S.stages) (by omega) (by omega) (by omega)
                  have hd : 200 / S.stages ≤ 200 := Int.ediv_le_self _ (by decide)
                  have hd0 : 0 ≤ 200 / S.stages := Int.ediv_nonneg (by decide) (by omega)
                  have sq : sBin .quo (.int .i64 200) (iv S.stages) = some (iv (200 / S.stages)) := by
                    rw [sBin_quo, if_neg (by omega), Int.tdiv_eq_ediv_of_nonneg (by decide), w64 _ (by omega)]
                  by_cases hb : 200 / S.stages < S.items
                  · rw [if_pos (hmo.1 hb)] at hV
                    simp [L63, ← hG, l0, l1, l2, l3, l4, l5, h4, h5, h6, sq, hb, hV]
                    exact on.keep
                  · have hb2 : ¬ 200 < S.items * S.stages := fun h => hb (hmo.2 h)
                    have h0 : 0 ≤ S.items * S.stages := Int.mul_nonneg (by omega) (by omega)
                    have wm : IntKind.i64.wrap (S.items * S.stages) = S.items * S.stages := w64 _ (by omega)
                    rw [if_neg hb2] at hV
                    simp [L63, ← hG, l0, l1, l2, l3, l4, l5, h4, h5, h6, sq, hb, wm, hV]
                    exact on.keep
          · have hV := bad (fun g => h3 g.2.2.1)
            have h3b : (S.step != 0) = true := by simpa using h3
            rw [h1] at l1
            rw [h2] at l2
            simp [L63, ← hG, l0, l1, l2, l3, h3b, h3, hV]
            exact on.keep
        · have hV := bad (fun g => h2 g.2.1)
          have h2b : (S.hi != 0) = true := by simpa using h2
          rw [h1] at l1
          simp [L63, ← hG, l0, l1, l2, h2b, h2, hV]
          exact on.keep
      · have hV := bad (fun g => h1 g.1)
        have h1b : (S.lo != 0) = true := by simpa using h1
        simp [L63, ← hG, l0, l1, h1b, h1, hV]
        exact on.keep
    · have k2b : (S.kind == 2) = false := by simpa using k2
      have hV := err (by rw [if_neg (fun g => k2 g.1)])
      simp [L63, ← hG, l0, k1b, k2b, k1, k2, hV]
      exact on.keep
def stgV (S : Shp) : Int := if S.kind = 2 then S.stages else 1
theorem stages_T {H : Heap} (hw : H.WF) (S : Shp) : T Tryz.prog 86 [.agg (shpC S).toArray] H (iv (stgV S)) H := by
  obtain ⟨V, hV⟩ : ∃ V, V = stgV S := ⟨_, rfl⟩
  rw [← hV]
  refine T_seen hm light86 rfl ?_
  have vr : Vr (H.new 26 6 (shpC S)) H.next 26 6 (shpC S) := Vr.mk' hw _ _ _
  have on : On H (H.new 26 6 (shpC S)) := (On.refl hw).new _ _ _
  obtain ⟨G, hG⟩ : ∃ G, G = H.new 26 6 (shpC S) := ⟨_, rfl⟩
  rw [← hG] at vr on
  have l0 : G.load ⟨H.next, 0, none⟩ = some (iv S.kind) := vr.load 0
  have l5 : G.load ⟨H.next, 5, none⟩ = some (iv S.stages) := vr.load 5
  unfold stgV at hV
  by_cases k2 : S.kind = 2
  · have k2b : (S.kind == 2) = true := by simpa using k2
    rw [if_pos k2] at hV
    simp [L86, ← hG, l0, k2b, l5, hV]
    exact on.keep
  · have k2b : (S.kind == 2) = false := by simpa using k2
    rw [if_neg k2] at hV
    simp [L86, ← hG, l0, k2b, hV]
    exact on.keep
end Go.Proofs.YtnomffikflfilaaGreat
namespace Go.Proofs.YtnomffikflfilaaGreat.R14
open Go.Ot
set_option linter.unusedSimpArgs false
set_option linter.unusedVariables false
abbrev sl (b n : Nat) : Value := .slice (some ⟨b, 0, none⟩) n 0
def ci (l : List Int) : List Value := l.map iv
theorem ci_append (a b : List Int) : ci (a ++ b) = ci a ++ ci b := by simp [ci]
def okI (n : Int) : Prop := -9223372036854775808 ≤ n ∧ n ≤ 9223372036854775807
def right (op : Int) : Bool := decide (1 ≤ op) && decide (op ≤ 7)
theorem right_T {H : Heap} (op : Int) : T Tryz.prog 117 [iv op] H (.bool (right op)) H := by
  refine T_eq hm light117 ?_
  by_cases h1 : 1 ≤ op <;> by_cases h2 : op ≤ 7 <;> simp [L117, right, h1, h2]
def zeroV (op : Int) : Int := if op = 2 then 1 else if op = 3 then 9223372036854775807 else if op = 4 then -9223372036854775808 else if op = 5 then -1 else 0
theorem zero_T {H : Heap} (op : Int) : T Tryz.prog 118 [iv op] H (iv (zeroV op)) H := by
  refine T_eq hm light118 ?_
  by_cases h2 : op = 2
  · subst h2; simp [L118, zeroV]
  by_cases h3 : op = 3
  · subst h3; simp [L118, zeroV]
  by_cases h4 : op = 4
  · subst h4; simp [L118, zeroV]
  by_cases h5 : op = 5
  · subst h5; simp [L118, zeroV]
  simp [L118, zeroV, h2, h3, h4, h5]
structure HP (H : Heap) (lo hi p : Nat) (ops now : List Int) (many : Int) (xo xn : Value) : Prop where
  hp : ¬ p < H.B
  bp : H.blk p = some ⟨229, 3, [xo, xn, iv many]⟩
  oo : Own H 99 1 ops.length (ci ops) xo
  on : Own H 2 1 now.length (ci now) xn
  po : blkOf xo ≠ some p
  pn : blkOf xn ≠ some p
  xx : ∀ b, blkOf xo = some b → blkOf xn ≠ some b
  rp : lo ≤ p ∧ p < hi
  ro : ∀ b, blkOf xo = some b → lo ≤ b ∧ b < hi
  rn : ∀ b, blkOf xn = some b → lo ≤ b ∧ b < hi
theorem HP.frame {H H' : Heap} {lo hi p : Nat} {ops now : List Int} {many : Int} {xo xn : Value} (h : HP H lo hi p ops now many xo xn) (hb : H'.base = H.base) (hk : ∀ b, lo ≤ b → b < hi → H'.blk b = H.blk b) :
    HP H' lo hi p ops now many xo xn :=
  ⟨by rw [B_eq hb]; exact h.hp, by rw [hk p h.rp.1 h.rp.2]; exact h.bp, h.oo.keep (B_eq hb) (fun b e => hk b (h.ro b e).1 (h.ro b e).2), h.on.keep (B_eq hb) (fun b e => hk b (h.rn b e).1 (h.rn b e).2),
   h.po, h.pn, h.xx, h.rp, h.ro, h.rn⟩
theorem HP.wide {H : Heap} {lo hi hi2 p : Nat} {ops now : List Int} {many : Int} {xo xn : Value} (h : HP H lo hi p ops now many xo xn) (hh : hi ≤ hi2) : HP H lo hi2 p ops now many xo xn :=
  ⟨h.hp, h.bp, h.oo, h.on, h.po, h.pn, h.xx, ⟨h.rp.1, by have := h.rp.2; omega⟩, fun b e => ⟨(h.ro b e).1, by have := (h.ro b e).2; omega⟩, fun b e => ⟨(h.rn b e).1, by have := (h.rn b e).2; omega⟩⟩
def Twos (H : Heap) (x : Value) (l : List (Int × Int)) : Prop :=
  (x = .slice none 0 0 ∧ l = []) ∨ ∃ b off c, x = .slice (some ⟨b, off, none⟩) l.length c ∧ ∀ i (h : i < l.length), H.load ⟨b, off + i * 2, none⟩ = some (iv l[i].1) ∧ H.load ⟨b, off + i * 2 + 1, none⟩ = some (iv l[i].2)
theorem Twos.len {H : Heap} {x : Value} {l : List (Int × Int)} (h : Twos H x l) : ∃ a c, x = .slice a l.length c := by
  rcases h with ⟨rfl, rfl⟩ | ⟨b, off, c, rfl, h⟩ <;> exact ⟨_, _, rfl⟩
theorem Twos.at {H : Heap} {x : Value} {l : List (Int × Int)} (h : Twos H x l) {i : Nat} (hi : i < l.length) : ∃ b off c, x = .slice (some ⟨b, off, none⟩) l.length c ∧ H.load ⟨b, off + i * 2, none⟩ = some (iv l[i].1) ∧ H.load ⟨b, off + i * 2 + 1, none⟩ = some (iv l[i].2) := by
  rcases h with ⟨rfl, rfl⟩ | ⟨b, off, c, rfl, h⟩
  · simp at hi
  · exact ⟨b, off, c, rfl, h i hi⟩
theorem Twos.keep {H H' : Heap} (hw : H.WF) (hb : H'.base = H.base) (hk : ∀ b, b < H.next → H'.blk b = H.blk b) {x : Value} {l : List (Int × Int)} (h : Twos H x l) : Twos H' x l := by
  rcases h with h | ⟨b, off, c, rfl, h⟩
  · exact .inl h
  · refine .inr ⟨b, off, c, rfl, fun i hi => ?_⟩
    have e := hk b (load_lt hw (h i hi).1)
    rw [load_frame hb e, load_frame hb e]; exact h i hi
structure NW (G H : Heap) (p : Nat) (l : List (Int × Int)) (xo xn : Value) : Prop where
  hp : HP H G.next H.next p (l.map (·.1)) (l.map fun r => zeroV r.1) 0 xo xn
  wf : H.WF
  base : H.base = G.base
  next : G.next ≤ H.next
  old : ∀ b, b < G.next → H.blk b = G.blk b
def InvN (G : Heap) (x : Value) (l : List (Int × Int)) (p : Nat) (k : Nat) (t : Tm) (H : Heap) : Prop :=
  ∃ i xo xn, i + k = l.length ∧ t 4 = ptr p ∧ t 12 = x ∧ t 13 = iv l.length ∧ t 14 = iv i ∧ (∀ j (h : j < i) (h2 : j < l.length), right l[j].1 = true) ∧ NW G H p (l.take i) xo xn
def NewQ (H : Heap) (l : List (Int × Int)) (v : Value) (H' : Heap) : Prop :=
  if 4 < l.length then v = .tuple #[.pointer none, iv 171] else if l.all (fun r => right r.1) = true then ∃ p xo xn, v = .tuple #[ptr p, iv 0] ∧ NW H H' p l xo xn else v = .tuple #[.pointer none, iv 140]
theorem new_T {H : Heap} (hw : H.WF) {x : Value} {l : List (Int × Int)} (hx : Twos H x l) :
    ∃ v H', T Tryz.prog 85 [x] H v H' ∧ H'.WF ∧ H'.base = H.base ∧ H.next ≤ H'.next ∧ (∀ b, b < H.next → H'.blk b = H.blk b) ∧
      NewQ H l v H' := by
  obtain ⟨xa, xc, hxl⟩ := hx.len
  by_cases h4 : 4 < l.length
  · refine ⟨_, H, T_eq (v := .tuple #[.pointer none, iv 171]) (H' := H) hm light85 ?_, hw, rfl, Nat.le_refl _, fun _ _ => rfl, by rw [NewQ, if_pos h4]⟩
    rw [hxl]
    simp [L85, h4]
  refine T_by hm light85 ?_
  have hnB := hw.next_ge
  have W0 : NW H (H.new 229 3 [.slice none 0 0, .slice none 0 0, iv 0]) H.next [] (.slice none 0 0) (.slice none 0 0) :=
    ⟨⟨by simpa using hnB, by simp, Own.nil _ _ _, Own.nil _ _ _, by simp, by simp, by simp, ⟨by omega, by simp⟩, by simp, by simp⟩, WF_new hw _ _ _, rfl, by simp, fun b hb => by simp [show b ≠ H.next by omega]⟩
  rw [hxl]
  simp [L85, h4]
  rw [← hxl]
  refine loop_at (InvN H x l H.next) l.length ?_ ?_
  · exact ⟨0, _, _, by omega, by simp, by simp, by simp, by simp, by simp, W0⟩
  · rintro k t H1 ⟨i, xo, xn, hik, t4, t12, t13, t14, hall, W⟩
    cases k with
    | zero =>
      have e0 : i = l.length := by omega
      subst e0
      rw [List.take_length] at W
      have ha : l.all (fun r => right r.1) = true := by
        rw [List.all_eq_true]
        intro r hr
        obtain ⟨j, hj, rfl⟩ := List.mem_iff_getElem.1 hr
        exact hall j hj hj
      simp [L85_1, t4, t13, t14, packV]
      refine ⟨W.wf, W.base, W.next, W.old, ?_⟩
      rw [NewQ, if_neg h4, if_pos ha]
      exact ⟨_, xo, xn, rfl, W⟩
    | succ k =>
      have hi : i < l.length := by omega
      obtain ⟨b, off, c, hxs, l1, l2⟩ := (hx.keep hw W.base W.old).at hi
      have hnB1 := W.wf.next_ge
      have hwr : (H1.new 101 2 [iv l[i].1, iv l[i].2]).WF := WF_new W.wf _ _ _
      have st2 : sStore (H1.new 101 2 [iv 0, iv 0]) 2 (ptr H1.next) (.agg #[iv l[i].1, iv l[i].2]) = some (H1.new 101 2 [iv l[i].1, iv l[i].2]) := by
        have := sStore_agg (H1.new 101 2 [iv 0, iv 0]) ⟨H1.next, 0, none⟩ 2 [iv l[i].1, iv l[i].2] rfl (by decide)
        rw [show (.agg #[iv l[i].1, iv l[i].2] : Value) = .agg [iv l[i].1, iv l[i].2].toArray from rfl, this, storeN_at (k := ⟨101, 2, [iv 0, iv 0]⟩) (by simpa using hnB1) (by simp) (by simp)]
        simp [new_put]
      have l3 : (H1.new 101 2 [iv l[i].1, iv l[i].2]).load ⟨H1.next, 0, none⟩ = some (iv l[i].1) := by rw [load_at (k := ⟨101, 2, [iv l[i].1, iv l[i].2]⟩) (by simpa using hnB1) (by simp)]; rfl
      have ld : H1.loadN ⟨b, off + i * 2, none⟩ 0 2 = some [iv l[i].1, iv l[i].2] := by
        simp [Heap.loadN, add_own, l1, l2]
      obtain ⟨H2, hH2⟩ : ∃ H2, H2 = H1.new 101 2 [iv l[i].1, iv l[i].2] := ⟨_, rfl⟩
      simp [L85_1, t4, t12, t13, t14, hxs, hi, ld, st2, l3]
      rw [← hH2]
      refine goT_of (right_T _) ?_
      have n2 : H2.next = H1.next + 1 := by rw [hH2]; rfl
      have b2 : H2.base = H1.base := by rw [hH2]; rfl
      have k2 : ∀ b, b < H1.next → H2.blk b = H1.blk b := fun b hb => by rw [hH2]; simp [show b ≠ H1.next by omega]
      rw [← hH2] at hwr l3
      have N2 : NW H H2 H.next (l.take i) xo xn := ⟨(W.hp.frame b2 (fun b _ h2 => k2 b h2)).wide (by omega), hwr, b2.trans W.base, by have := W.next; omega, fun b hb => (k2 b (by have := W.next; omega)).trans (W.old b hb)⟩
      by_cases hr : right l[i].1 = true
      · have hlen : (l.take i).length = i := by simp; omega
        have e1 : ((l.take i).map (·.1)).length = i := by simp; omega
        have e2 : ((l.take i).map fun r => zeroV r.1).length = i := by simp; omega
        have hp2 := N2.hp
        have hbp := hp2.bp
        have oo := hp2.oo
        have on := hp2.on
        rw [e1] at oo
        rw [e2] at on
        obtain ⟨a3, H3, H4, ap3, st3, P3⟩ := push_in hwr hp2.hp hbp oo hp2.po (iv l[i].1) 0 (by simp) 8 0 (by omega)
        simp only [List.set_cons_zero] at P3
        have on4 : Own H4 2 1 i (ci ((l.take i).map fun r => zeroV r.1)) xn := on.keep (B_eq P3.base) (fun b hb => P3.same b (hp2.rn b hb).2 (fun e => hp2.pn (by rw [← e]; exact hb)) (fun e => hp2.xx b e hb))
        have hp4 : ¬ H.next < H4.B := by rw [B_eq P3.base]; exact hp2.hp
        obtain ⟨a5, H5, H6, ap5, st5, P5⟩ := push_in P3.wf hp4 P3.bp on4 hp2.pn (iv (zeroV l[i].1)) 1 (by simp) 8 0 (by omega)
        simp only [List.set_cons_zero, List.set_cons_succ] at P5
        have ld0 : H2.load ⟨H.next, 0, none⟩ = some xo := by rw [load_at hp2.hp hbp]; rfl
        have ld1 : H4.load ⟨H.next, 1, none⟩ = some xn := by rw [load_at hp4 P3.bp]; rfl
        have l4 : H4.load ⟨H1.next, 0, none⟩ = some (iv l[i].1) := by
          have : H4.blk H1.next = H2.blk H1.next := P3.same _ (by omega) (by have := hp2.rp; have := W.hp.rp; omega) (fun e => by have := (W.hp.ro _ e).2; omega)
          rw [load_frame P3.base this]; exact l3
        have e3 : IntKind.i64.wrap ((i : Int) + 1) = ((i + 1 : Nat) : Int) := by rw [w64 _ (by omega)]; omega
        obtain ⟨i1, hi1⟩ : ∃ i1, i1 = i + 1 := ⟨_, rfl⟩
        rw [← hi1] at e3
        have ld0n := load_newN hwr ld0
        have ld1n := load_newN P3.wf ld1
        simp [hr, t4, ld0, ld0n, l3, zerosA, ap3, st3, ld1, l4]
        refine goT_of (zero_T _) ?_
        simp [ld1, ld1n, zerosA, ap5, st5, t13, t14, e3]
        have r2 := hp2.rp
        have n3 := P3.next
        have n5 := P5.next
        have y3n : ∀ b, blkOf (.slice (some a3) (i + 1) 0) = some b → H2.next ≤ b ∧ b < H4.next := P3.new
        have y5n : ∀ b, blkOf (.slice (some a5) (i + 1) 0) = some b → H4.next ≤ b ∧ b < H6.next := P5.new
        have y3e : (.slice (some a3) (i + 1) 0 : Value) = .slice (some a3) i1 0 := by rw [hi1]
        have tk : l.take i1 = l.take i ++ [l[i]] := by rw [hi1]; exact List.take_succ_eq_append_getElem hi
        refine ⟨k, Nat.lt_succ_self k, i1, .slice (some a3) (i + 1) 0, .slice (some a5) (i + 1) 0, by omega, by simp [t4], by simp [t12, hxs], by simp [t13], by simp, ?_, ?_⟩
        · intro j hj hj2
          by_cases hji : j = i
          · subst hji; exact hr
          · exact hall j (by omega) hj2
        · show NW H H6 H.next (l.take i1) (.slice (some a3) (i + 1) 0) (.slice (some a5) (i + 1) 0)
          refine ⟨⟨by rw [B_eq P5.base]; exact hp4, P5.bp, ?_, ?_, ?_, ?_, ?_, ⟨by omega, by omega⟩, ?_, ?_⟩, P5.wf, P5.base.trans (P3.base.trans N2.base), by have := N2.next; omega, ?_⟩
          · have e4 : ((l.take i1).map (·.1)).length = i + 1 := by simp; omega
            rw [e4, tk, List.map_append, ci_append]
            exact P3.own.keep (B_eq P5.base) (fun b hb => P5.same b (y3n b hb).2 (by have := (y3n b hb).1; omega) (fun e => by have := (hp2.rn b e).2; have := (y3n b hb).1; omega))
          · have e4 : ((l.take i1).map fun r => zeroV r.1).length = i + 1 := by simp; omega
            rw [e4, tk, List.map_append, ci_append]
            exact P5.own
          · intro e; have := (y3n _ e).1; omega
          · intro e; have := (y5n _ e).1; omega
          · intro b e1 e2; have := (y3n b e1).2; have := (y5n b e2).1; omega
          · intro b e; have := y3n b e; omega
          · intro b e; have := y5n b e; omega
          · intro b hb
            rw [P5.same b (by omega) (by omega) (fun e => by have := (hp2.rn b e).1; omega), P3.same b (by omega) (by omega) (fun e => by have := (hp2.ro b e).1; omega)]
            exact N2.old b hb
      · have ha : ¬ l.all (fun r => right r.1) = true := by
          rw [List.all_eq_true]
          exact fun h => hr (h _ (List.getElem_mem hi))
        simp [hr, packV]
        refine ⟨N2.wf, N2.base, N2.next, N2.old, ?_⟩
        rw [NewQ, if_neg h4, if_neg ha]
def chkC (l : List (Int × Int)) : Int := if 4 < l.length then 171 else if l.all (fun r => right r.1) = true then 0 else 140
end Go.Proofs.YtnomffikflfilaaGreat.R14
