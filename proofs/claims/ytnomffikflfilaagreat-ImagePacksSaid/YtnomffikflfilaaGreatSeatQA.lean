/-
  Chapter 26: which jobs and configs may be, by the document (carried over from chapter 25).
-/
import Derived.Test.YtnomffikflfilaaGreatSeatI
import Derived.Test.YtnomffikflfilaaGreatSeatLC
namespace Go.Proofs.YtnomffikflfilaaGreat
open Go.Ot Go.RowKit
theorem one_toE (x : I8.In) (cells long : Int) : E8.oneV (toE x) cells long = I8.oneV x cells long := by
  cases hv : I8.valid x.kind with
  | false =>
    have h2 : E8.valid (toE x).kind = false := hv
    unfold E8.oneV I8.oneV
    rw [if_pos h2, if_pos hv]
  | true =>
    obtain ⟨k, op, a, b, c, kk⟩ := x
    simp only at hv
    rcases I8.kinds hv with h | h | h | h | h | h | h | h | h | h | h | h | h <;> subst h <;> rfl
theorem fst_toE (cells long : Int) : ∀ (l : List I8.In) (i : Nat), E8.fstBad cells long (l.map toE) i = I8.fstBad cells long l i
  | [], _ => rfl
  | x :: l, i => by
    simp only [List.map_cons, E8.fstBad, I8.fstBad, one_toE, fst_toE cells long l]
theorem last_toE (l : List I8.In) : E8.lastK (l.map toE) = I8.lastK l := by
  unfold E8.lastK I8.lastK
  rw [List.getLast?_map]
  cases l.getLast? <;> rfl
theorem check_toE (l : List I8.In) (cells : Int) : E8.checkV (l.map toE) cells = I8.checkV l cells := by
  unfold E8.checkV I8.checkV
  rw [fst_toE, last_toE, List.length_map]
  rfl
end Go.Proofs.YtnomffikflfilaaGreat
namespace Go.Proofs.YtnomffikflfilaaGreat
open Go.Ot Go.RowKit
set_option linter.unusedSimpArgs false
set_option linter.unusedVariables false
theorem way_lt (S : Shp) (h0 : S.step ≠ 0) {m : Int} (hm : 0 ≤ m) : (0 < S.step → (S.lo + m * S.step < S.hi ↔ m < wayN S)) ∧ (S.step < 0 → (S.hi < S.lo + m * S.step ↔ m < wayN S)) := by
  constructor
  · intro hs
    unfold wayN
    rw [if_pos hs]
    by_cases h : S.lo < S.hi
    · rw [if_pos h]
      have := Int.le_ediv_iff_mul_le (a := m) (b := S.hi - S.lo - 1) hs
      omega
    · rw [if_neg h]
      have := Int.mul_nonneg hm (Int.le_of_lt hs)
      omega
  · intro hs
    unfold wayN
    rw [if_neg (by omega)]
    have hneg : m * (-S.step) = -(m * S.step) := by rw [Int.mul_neg]
    by_cases h : S.hi < S.lo
    · rw [if_pos h]
      have := Int.le_ediv_iff_mul_le (a := m) (b := S.lo - S.hi - 1) (c := -S.step) (by omega)
      omega
    · rw [if_neg h]
      have := Int.mul_nonneg hm (b := -S.step) (by omega)
      omega
def TasksQ (H : Heap) (S : Shp) (o : Out) (H' : Heap) : Prop := ∃ y n cells, o = .ret (.tuple #[y, iv (cntP S).2]) ∧ Row H H' 235 2 n cells y ∧ (n : Int) = (cntP S).1
def InvA1 (H HB : Heap) (S : Shp) (p : Nat) (k : Nat) (t : Tm) (H1 : Heap) : Prop :=
  ∃ (m : Nat) (cells : List Value) (x : Value) (i : Int), m + k = 201 ∧ t 1 = ptr p ∧ t 4 = x ∧ t 5 = iv i ∧ i = S.lo + m * S.step ∧ okW i ∧ Row HB H1 235 2 m cells x ∧ (m : Int) ≤ wayN S ∧ m ≤ 200
def InvA3 (HB : Heap) (p it sg : Nat) (k : Nat) (t : Tm) (H1 : Heap) : Prop :=
  ∃ (i : Nat) (cells : List Value) (x : Value), i + k = it ∧ t 1 = ptr p ∧ t 4 = x ∧ t 7 = iv i ∧ Row HB H1 235 2 (i * sg) cells x ∧ i * sg ≤ 200
def InvA2 (HB : Heap) (p i sg : Nat) (k : Nat) (t : Tm) (H1 : Heap) : Prop :=
  ∃ (j : Nat) (cells : List Value) (x : Value), j + k = sg ∧ t 1 = ptr p ∧ t 4 = x ∧ t 7 = iv i ∧ t 8 = iv j ∧ Row HB H1 235 2 (i * sg + j) cells x
def blkC1 : LCode → LCode | .block _ c => c | c => c
def seqL1 : LCode → LCode | .seq a _ => a | c => c
def seqR1 : LCode → LCode | .seq _ b => b | c => c
def L90r : LCode := seqR1 (blkC1 (seqR1 L90_1))
def L90s : LCode := seqR1 L90r
theorem L90_1_eq : L90_1 = .seq (seqL1 L90_1) (.block 1 (.seq (seqL1 (blkC1 (seqR1 L90_1))) (.seq (seqL1 L90r) L90s))) := rfl
theorem way_loop {G : Heap} (wG : G.WF) (S : Shp) (ok : ShpOk S) {p : Nat} (vr : Vr G p 26 6 (shpC S)) (h0 : S.step ≠ 0) {Q : Post} {t : Tm} (t1 : t 1 = ptr p) (t4 : t 4 = .slice none 0 0) (t5 : t 5 = iv S.lo)
    (hE : ∀ (tt : Tm) H' (m : Nat) cells x, tt 4 = x → Row G H' 235 2 m cells x → (m : Int) = wayN S → m ≤ 200 → Q (.exit 0) tt (rdy H'))
    (hR : ∀ (tt : Tm) H', tt 2 = .slice none 0 0 → tt 3 = iv 151 → On G H' → 200 < wayN S → Q .ret tt (rdy H')) : wpN Tryz.prog (.loop L90_1) Q t (rdy G) := by
  obtain ⟨o1, o2, o3, o4, o5⟩ := ok
  have o1' := o1
  unfold okW at o1 o2 o3 o4 o5
  have hge := wayN_ge S
  have ld : ∀ {H1 : Heap}, On G H1 → H1.load ⟨p, 2, none⟩ = some (iv S.hi) ∧ H1.load ⟨p, 3, none⟩ = some (iv S.step) := by
    intro H1 o
    have v := vr.on wG o
    exact ⟨v.load 2, v.load 3⟩
  refine loopN_at (InvA1 G G S p) 201 ?_ ?_
  · exact ⟨0, [], .slice none 0 0, S.lo, by omega, t1, t4, t5, by simp, o1', Row.nil wG _ _, by simpa using hge, by omega⟩
  · rintro k t H1 ⟨m, cells, x, i, hk, t1, t4, t5, hi, hoi, row, hmN, hm200⟩
    obtain ⟨wl1, wl2⟩ := way_lt S h0 (m := (m : Int)) (by omega)
    obtain ⟨wn1, wn2⟩ := way_lt S h0 (m := ((m + 1 : Nat) : Int)) (by omega)
    rw [← hi] at wl1 wl2
    have hnext : S.lo + ((m + 1 : Nat) : Int) * S.step = i + S.step := by
      rw [hi, show ((m + 1 : Nat) : Int) = (m : Int) + 1 by omega, Int.add_mul, Int.one_mul]; omega
    rw [hnext] at wn1 wn2
    obtain ⟨l2, l3⟩ := ld row.on
    unfold okW at hoi
    obtain ⟨z, H3, ap, row3⟩ := row_push 16 row (e := [iv i, iv 0]) rfl (by decide) (by omega)
    obtain ⟨l23, l33⟩ := ld row3.on
    obtain ⟨az, hz⟩ := row3.own.len
    have hz2 : zerosA [iv 0, iv 0] 2 = [iv 0, iv 0] := rfl
    obtain ⟨mN, hmN'⟩ : ∃ mN, mN = m + 1 := ⟨_, rfl⟩
    rw [← hmN'] at row3 hz wn1 wn2 hnext
    have e : ∀ n : Int, IntKind.i64.wrap n = (n + 9223372036854775808) % 18446744073709551616 - 9223372036854775808 := fun n => by
      simp only [IntKind.wrap, IntKind.bits, IntKind.signed]
      have := Int.emod_nonneg n (b := 18446744073709551616) (by decide)
      simp
      split <;> omega
    have hAdd : ∃ w, IntKind.i64.wrap (i + S.step) = w ∧ (w = i + S.step ∨ (0 < S.step ∧ w < i ∧ 9223372036854775807 < i + S.step) ∨ (S.step < 0 ∧ i < w ∧ i + S.step < -9223372036854775808)) ∧ okW w := by
      refine ⟨_, rfl, ?_, ?_⟩
      · rw [e]; omega
      · unfold okW; rw [e]; omega
    obtain ⟨w, hw1, hw2, hw3⟩ := hAdd
    rw [hz] at ap
    rw [L90_1_eq]
    by_cases hs : 0 < S.step
    · have wl := wl1 hs
      have wn := wn1 hs
      have hs' : ¬ S.step < 0 := by omega
      by_cases hlt : i < S.hi
      · have hmlt := wl.1 hlt
        by_cases hov : 200 < mN
        · have hovI : (200 : Int) < (mN : Int) := by omega
          simp [L90_1, L90r, seqL1, seqR1, blkC1, t1, l3, hs, t5, l2, hlt, t4, hz2, ap, hov, hovI]
          exact hR _ _ (by simp) (by simp) row3.on (by omega)
        · have hovI : ¬ (200 : Int) < (mN : Int) := by omega
          simp [L90_1, L90r, seqL1, seqR1, blkC1, t1, l3, hs, t5, l2, hlt, t4, hz2, ap, hov, hovI]
          by_cases hwi : w < i
          · simp [L90s, L90r, L90_1, seqR1, blkC1, t1, t5, l33, hs, hw1, hwi]
            exact hE _ _ mN _ z (by simp [hz]) row3 (by
              have hno : ¬ (mN : Int) < wayN S := by rw [← wn]; omega
              omega) (by omega)
          · simp [L90s, L90r, L90_1, seqR1, blkC1, t1, t5, l33, hs, hs', hw1, hwi]
            exact ⟨k - 1, by omega, mN, _, z, w, by omega, by simp [t1], by simp [hz], by simp, by omega, hw3, row3, by omega, by omega⟩
      · simp [L90_1, seqL1, t1, l3, hs, hs', t5, l2, hlt]
        exact hE _ _ m _ x (by simp [t4]) row (by
              have hno : ¬ (m : Int) < wayN S := by rw [← wl]; exact hlt
              omega) hm200
    · have hs' : S.step < 0 := by omega
      have wl := wl2 hs'
      have wn := wn2 hs'
      by_cases hlt : S.hi < i
      · have hmlt := wl.1 hlt
        by_cases hov : 200 < mN
        · have hovI : (200 : Int) < (mN : Int) := by omega
          simp [L90_1, L90r, seqL1, seqR1, blkC1, t1, l3, hs, hs', t5, l2, hlt, t4, hz2, ap, hov, hovI]
          exact hR _ _ (by simp) (by simp) row3.on (by omega)
        · have hovI : ¬ (200 : Int) < (mN : Int) := by omega
          simp [L90_1, L90r, seqL1, seqR1, blkC1, t1, l3, hs, hs', t5, l2, hlt, t4, hz2, ap, hov, hovI]
          by_cases hwi : i < w
          · simp [L90s, L90r, L90_1, seqR1, blkC1, t1, t5, l33, hs, hs', hw1, hwi]
            exact hE _ _ mN _ z (by simp [hz]) row3 (by
              have hno : ¬ (mN : Int) < wayN S := by rw [← wn]; omega
              omega) (by omega)
          · simp [L90s, L90r, L90_1, seqR1, blkC1, t1, t5, l33, hs, hs', hw1, hwi]
            exact ⟨k - 1, by omega, mN, _, z, w, by omega, by simp [t1], by simp [hz], by simp, by omega, hw3, row3, by omega, by omega⟩
      · simp [L90_1, seqL1, t1, l3, hs, hs', t5, l2, hlt]
        exact hE _ _ m _ x (by simp [t4]) row (by
              have hno : ¬ (m : Int) < wayN S := by rw [← wl]; exact hlt
              omega) hm200
theorem pipe_loop {G : Heap} (wG : G.WF) (S : Shp) {p it sg : Nat} (vr : Vr G p 26 6 (shpC S)) (hit : S.items = (it : Int)) (hsg : S.stages = (sg : Int)) (h1 : 1 ≤ sg) (h6 : sg ≤ 6) (hit64 : it ≤ 9223372036854775807) {Q : Post} {t : Tm} (t1 : t 1 = ptr p) (t4 : t 4 = .slice none 0 0) (t7 : t 7 = iv 0)
    (hE : ∀ (tt : Tm) H' cells x, tt 4 = x → Row G H' 235 2 (it * sg) cells x → it * sg ≤ 200 → Q (.exit 2) tt (rdy H'))
    (hR : ∀ (tt : Tm) H', tt 2 = .slice none 0 0 → tt 3 = iv 151 → On G H' → 200 < it * sg → Q .ret tt (rdy H')) : wpN Tryz.prog (.loop L90_3) Q t (rdy G) := by
  have ld : ∀ {H1 : Heap}, On G H1 → H1.load ⟨p, 4, none⟩ = some (iv it) ∧ H1.load ⟨p, 5, none⟩ = some (iv sg) := by
    intro H1 o
    have v := vr.on wG o
    rw [← hit, ← hsg]
    exact ⟨v.load 4, v.load 5⟩
  refine loopN_at (InvA3 G p it sg) it ?_ ?_
  · exact ⟨0, [], .slice none 0 0, by omega, t1, t4, t7, by rw [Nat.zero_mul]; exact Row.nil wG _ _, by omega⟩
  · rintro k t H1 ⟨i, cells, x, hk, t1, t4, t7, row, h200⟩
    obtain ⟨l4, _⟩ := ld row.on
    cases k with
    | zero =>
      have ei : i = it := by omega
      subst ei
      have e1 : ¬ ((i : Int) < (i : Int)) := by omega
      simp [L90_3, t1, l4, t7]
      exact hE _ _ _ x (by simp [t4]) row h200
    | succ k =>
      have e1 : ((i : Int) < (it : Int)) := by omega
      have e1' : i < it := by omega
      have e4 : IntKind.i64.wrap ((i : Int) + 1) = ((i + 1 : Nat) : Int) := by rw [w64 _ (by omega)]; omega
      obtain ⟨iN, hiN⟩ : ∃ m : Nat, m = i + 1 := ⟨_, rfl⟩
      rw [← hiN] at e4
      have hiN2 : iN * sg = i * sg + sg := by rw [hiN, Nat.add_mul, Nat.one_mul]
      have hmono : iN * sg ≤ it * sg := Nat.mul_le_mul_right _ (by omega)
      simp [L90_3, t1, l4, t7, e1, e1']
      refine loopN_at (InvA2 G p i sg) sg ?_ ?_
      · exact ⟨0, cells, x, by omega, by simp [t1], by simp [t4], by simp [t7], by simp, row⟩
      · rintro k2 tt H2 ⟨j, cells2, x2, hjk, u1, u4, u7, u8, row2⟩
        obtain ⟨_, l5⟩ := ld row2.on
        cases k2 with
        | zero =>
          have ej : j = sg := by omega
          subst ej
          obtain ⟨ax, hx⟩ := row2.own.len
          rw [← hiN2] at row2 hx
          by_cases hov : 200 < iN * j
          · have hovI : (200 : Int) < ((iN * j : Nat) : Int) := by omega
            obtain ⟨w, hw⟩ : ∃ w, w = iN * j := ⟨_, rfl⟩
            rw [← hw] at hov hovI hx hmono
            rw [hx] at u4
            simp [L90_2, u1, l5, u8, u4, hov, hovI]
            exact hR _ _ (by simp) (by simp) row2.on (by omega)
          · have hovI : ¬ (200 : Int) < ((iN * j : Nat) : Int) := by omega
            have hx' := hx
            obtain ⟨w, hw⟩ : ∃ w, w = iN * j := ⟨_, rfl⟩
            rw [← hw] at hov hovI hx
            have u4' := u4
            rw [hx] at u4
            simp [L90_2, u1, l5, u8, u4, hov, hovI, u7, e4]
            exact ⟨k, by omega, iN, cells2, x2, by omega, by simp [u1], by simp [u4, hx], by simp, row2, by omega⟩
        | succ k2 =>
          have c1 : ((j : Int) < (sg : Int)) := by omega
          have c1' : j < sg := by omega
          have e5 : IntKind.i64.wrap ((j : Int) + 1) = ((j + 1 : Nat) : Int) := by rw [w64 _ (by omega)]; omega
          obtain ⟨jN, hjN⟩ : ∃ m : Nat, m = j + 1 := ⟨_, rfl⟩
          rw [← hjN] at e5
          obtain ⟨z, H3, ap, row3⟩ := row_push 16 row2 (e := [iv i, iv j]) rfl (by decide) (by omega)
          have hz2 : zerosA [iv 0, iv 0] 2 = [iv 0, iv 0] := rfl
          rw [show i * sg + j + 1 = i * sg + jN by omega] at row3
          simp [L90_2, u1, l5, u8, c1, c1', u4, u7, hz2, ap, e5]
          exact ⟨k2, by omega, jN, _, z, by omega, by simp [u1], by simp, by simp [u7], by simp, row3⟩
theorem tasks_N {H : Heap} (hw : H.WF) (S : Shp) (ok : ShpOk S) : TN Tryz.prog 90 [.agg (shpC S).toArray] H (TasksQ H S) := by
  refine N_by hm light90 ?_
  have vr : Vr (H.new 26 6 (shpC S)) H.next 26 6 (shpC S) := Vr.mk' hw _ _ _
  have on : On H (H.new 26 6 (shpC S)) := (On.refl hw).new _ _ _
  obtain ⟨G, hG⟩ : ∃ G, G = H.new 26 6 (shpC S) := ⟨_, rfl⟩
  rw [← hG] at vr on
  obtain ⟨p, hp⟩ : ∃ p, p = H.next := ⟨_, rfl⟩
  rw [← hp] at vr
  have onG := On.refl on.wf
  have l0 : G.load ⟨p, 0, none⟩ = some (iv S.kind) := vr.load 0
  have l1 : G.load ⟨p, 1, none⟩ = some (iv S.lo) := vr.load 1
  have l2 : G.load ⟨p, 2, none⟩ = some (iv S.hi) := vr.load 2
  have l3 : G.load ⟨p, 3, none⟩ = some (iv S.step) := vr.load 3
  have l4 : G.load ⟨p, 4, none⟩ = some (iv S.items) := vr.load 4
  have l5 : G.load ⟨p, 5, none⟩ = some (iv S.stages) := vr.load 5
  have fromG : ∀ {H1 : Heap} {n : Nat} {cells : List Value} {x : Value}, Row G H1 235 2 n cells x → Row H H1 235 2 n cells x := fun r => ⟨r.own, on.trans r.on, fun b hb => by have := r.new b hb; have := on.next; omega⟩
  have nil : ∀ {H1 : Heap} (e : Int), cntP S = (0, e) → On G H1 → TasksQ H S (.ret (.tuple #[.slice none 0 0, iv e])) H1 := fun e he o => ⟨_, 0, [], by rw [he], ⟨Own.nil _ _ _, on.trans o, fun b hb => by cases hb⟩, by rw [he]; rfl⟩
  by_cases k1 : S.kind = 1
  · rw [k1] at l0
    have ne2 : ¬ (S.kind = 2 ∧ S.lo = 0 ∧ S.hi = 0 ∧ S.step = 0 ∧ 0 ≤ S.items ∧ 1 ≤ S.stages ∧ S.stages ≤ 6) := fun h => by omega
    by_cases h4 : S.items = 0
    · rw [h4] at l4
      by_cases h5 : S.stages = 0
      · rw [h5] at l5
        have hC : cntP S = if S.step = 0 then (0, 150) else if 200 < wayN S then (0, 151) else (wayN S, 0) := by unfold cntP; rw [if_pos ⟨k1, h4, h5⟩]
        by_cases h0 : S.step = 0
        · rw [if_pos h0] at hC
          rw [h0] at l3
          simp [L90, ← hG, ← hp, l0, l4, l5, l3]
          exact nil 150 hC onG
        · rw [if_neg h0] at hC
          have h0b : (S.step == 0) = false := by simpa using h0
          simp [L90, ← hG, ← hp, l0, l4, l5, l3, h0b, h0, l1]
          refine way_loop on.wf S ok vr h0 (by simp [hp]) (by simp) (by simp) ?_ ?_
          · intro tt H' m cells x u4 row hmw hm200
            obtain ⟨ax, hx⟩ := row.own.len
            have hnt : notTup x = true := by rw [hx]; rfl
            have hC2 : cntP S = (wayN S, 0) := by rw [hC, if_neg (by omega)]
            simp [u4, hnt]
            exact ⟨x, m, cells, by rw [hC2], fromG row, by rw [hC2, hmw]⟩
          · intro tt H' u2 u3 o hbig
            simp [u2, u3]
            exact nil 151 (by rw [hC, if_pos hbig]) o
      · have hC : cntP S = (0, 152) := by unfold cntP; rw [if_neg (fun h => h5 h.2.2), if_neg ne2]
        have h5b : (S.stages == 0) = false := by simpa using h5
        simp [L90, ← hG, ← hp, l0, l4, l5, h5b, h5]
        exact nil 152 hC onG
    · have hC : cntP S = (0, 152) := by unfold cntP; rw [if_neg (fun h => h4 h.2.1), if_neg ne2]
      have h4b : (S.items == 0) = false := by simpa using h4
      simp [L90, ← hG, ← hp, l0, l4, h4b, h4]
      exact nil 152 hC onG
  · have hn : ¬ (S.kind = 1 ∧ S.items = 0 ∧ S.stages = 0) := fun h => k1 h.1
    have k1b : (S.kind == 1) = false := by simpa using k1
    have bad : ¬ (S.kind = 2 ∧ S.lo = 0 ∧ S.hi = 0 ∧ S.step = 0 ∧ 0 ≤ S.items ∧ 1 ≤ S.stages ∧ S.stages ≤ 6) → TasksQ H S (.ret (.tuple #[.slice none 0 0, iv 152])) G := fun h => nil 152 (by unfold cntP; rw [if_neg hn, if_neg h]) onG
    by_cases k2 : S.kind = 2
    · rw [k2] at l0
      by_cases h1 : S.lo = 0
      · rw [h1] at l1
        by_cases h2 : S.hi = 0
        · rw [h2] at l2
          by_cases h3 : S.step = 0
          · rw [h3] at l3
            by_cases h4 : 0 ≤ S.items
            · by_cases h5 : 1 ≤ S.stages
              · by_cases h6 : S.stages ≤ 6
                · obtain ⟨it, hit⟩ : ∃ it : Nat, it = S.items.toNat := ⟨_, rfl⟩
                  obtain ⟨sg, hsg⟩ : ∃ sg : Nat, sg = S.stages.toNat := ⟨_, rfl⟩
                  have hit' : S.items = (it : Int) := by omega
                  have hsg' : S.stages = (sg : Int) := by omega
                  have oi := ok.items
                  unfold okW at oi
                  have hprod : S.items * S.stages = ((it * sg : Nat) : Int) := by rw [hit', hsg', Int.natCast_mul]
                  have hC : cntP S = if 200 < ((it * sg : Nat) : Int) then (0, 151) else (((it * sg : Nat) : Int), 0) := by
                    unfold cntP; rw [if_neg hn, if_pos ⟨k2, h1, h2, h3, h4, h5, h6⟩, hprod]
                  simp [L90, ← hG, ← hp, l0, l1, l2, l3, l4, l5, h4, h5, h6]
                  refine pipe_loop on.wf S vr hit' hsg' (by omega) (by omega) (by omega) (by simp [hp]) (by simp) (by simp) ?_ ?_
                  · intro tt H' cells x u4 row h200
                    obtain ⟨ax, hx⟩ := row.own.len
                    have hnt : notTup x = true := by rw [hx]; rfl
                    have hC2 : cntP S = (((it * sg : Nat) : Int), 0) := by rw [hC, if_neg (by omega)]
                    simp [u4, hnt]
                    exact ⟨x, it * sg, cells, by rw [hC2], fromG row, by rw [hC2]⟩
                  · intro tt H' u2 u3 o hbig
                    simp [u2, u3]
                    exact nil 151 (by rw [hC, if_pos (by omega)]) o
                · simp [L90, ← hG, ← hp, l0, l1, l2, l3, l4, l5, h4, h5, h6]
                  exact bad (fun g => by omega)
              · simp [L90, ← hG, ← hp, l0, l1, l2, l3, l4, l5, h4, h5]
                exact bad (fun g => by omega)
            · simp [L90, ← hG, ← hp, l0, l1, l2, l3, l4, h4]
              exact bad (fun g => by omega)
          · have h3b : (S.step == 0) = false := by simpa using h3
            simp [L90, ← hG, ← hp, l0, l1, l2, l3, h3b, h3]
            exact bad (fun g => by omega)
        · have h2b : (S.hi == 0) = false := by simpa using h2
          simp [L90, ← hG, ← hp, l0, l1, l2, h2b, h2]
          exact bad (fun g => by omega)
      · have h1b : (S.lo == 0) = false := by simpa using h1
        simp [L90, ← hG, ← hp, l0, l1, h1b, h1]
        exact bad (fun g => by omega)
    · have k2b : (S.kind == 2) = false := by simpa using k2
      simp [L90, ← hG, ← hp, l0, k1b, k1, k2b, k2]
      exact bad (fun g => by omega)
end Go.Proofs.YtnomffikflfilaaGreat
namespace Go.Proofs.YtnomffikflfilaaGreat.R14
open Go.Ot
set_option linter.unusedSimpArgs false
set_option linter.unusedVariables false
theorem rightR_T {H : Heap} (op : Int) : T Tryz.prog 122 [iv op] H (.bool (right op)) H := by
  refine T_eq hm light122 ?_
  by_cases h1 : 1 ≤ op <;> by_cases h2 : op ≤ 7 <;> simp [L122, right, h1, h2]
def InvCk (H : Heap) (x : Value) (l : List (Int × Int)) (k : Nat) (t : Tm) (H1 : Heap) : Prop :=
  ∃ i : Nat, i + k = l.length ∧ t 0 = x ∧ t 3 = iv i ∧ (∀ j (h : j < l.length), j < i → right l[j].1 = true) ∧ H1 = H
theorem check_T {H : Heap} {x : Value} {l : List (Int × Int)} (hx : Twos H x l) (hl : l.length ≤ 100000) : T Tryz.prog 89 [x] H (iv (chkC l)) H := by
  obtain ⟨a, c, hxl⟩ := hx.len
  by_cases h4 : 4 < l.length
  · rw [show chkC l = 171 by simp [chkC, h4]]
    refine T_eq hm light89 ?_
    rw [hxl]
    simp [L89, h4]
  · refine T_eq hm light89 ?_
    rw [hxl]
    simp [L89, h4]
    rw [← hxl]
    refine loop_at (InvCk H x l) l.length ?_ ?_
    · exact ⟨0, by omega, by simp [hxl], by simp, fun j _ h => absurd h (by omega), rfl⟩
    · rintro k t H1 ⟨i, hik, t0, t3, hall, rfl⟩
      cases k with
      | zero =>
        have e1 : ¬ ((i : Int) < l.length) := by omega
        have ha : l.all (fun r => right r.1) = true := by
          rw [List.all_eq_true]
          intro r hr
          obtain ⟨j, hj, rfl⟩ := List.mem_iff_getElem.1 hr
          exact hall j hj (by omega)
        have e2 : chkC l = 0 := by simp only [chkC, h4, if_false, ha, if_true]
        rw [hxl] at t0
        rw [e2]
        simp [L89_1, t3, t0, e1]
      | succ k =>
        have hil : i < l.length := by omega
        have e1 : ((i : Int) < l.length) := by omega
        have e4 : IntKind.i64.wrap ((i : Int) + 1) = ((i + 1 : Nat) : Int) := by rw [w64 _ (by omega)]; omega
        obtain ⟨iN, hiN⟩ : ∃ n : Nat, n = i + 1 := ⟨_, rfl⟩
        rw [← hiN] at e4
        obtain ⟨b, off, c2, hxb, l0, _⟩ := hx.at hil
        have t0' := t0
        rw [hxb] at t0
        have hT := rightR_T (H := H1) l[i].1
        obtain ⟨rb, hrb⟩ : ∃ rb, rb = right l[i].1 := ⟨_, rfl⟩
        rw [← hrb] at hT
        cases rb with
        | true =>
          simp [L89_1, t3, t0, e1, hil, l0]
          refine goT_of hT ?_
          simp [t3, e4]
          refine ⟨k, by omega, iN, by omega, by simp [t0'], by simp, fun j hj hji => ?_, rfl⟩
          by_cases e : j = i
          · subst e; exact hrb.symm
          · exact hall j hj (by omega)
        | false =>
          have hna : ¬ l.all (fun r => right r.1) = true := by
            intro h
            have := List.all_eq_true.1 h l[i] (List.getElem_mem hil)
            rw [← hrb] at this
            cases this
          have e2 : chkC l = 140 := by unfold chkC; rw [if_neg h4, if_neg hna]
          rw [e2]
          simp [L89_1, t3, t0, e1, hil, l0]
          refine goT_of hT ?_
          simp
end Go.Proofs.YtnomffikflfilaaGreat.R14
namespace Go.Proofs.YtnomffikflfilaaGreat
open Go.Ot Go.RowKit
open R14 (Twos)
set_option linter.unusedSimpArgs false
set_option linter.unusedVariables false
def lastV (l : List (Int × Int)) (n : Int) : Nat → Int × Bool
  | 0 => (0, false)
  | k + 1 => if (l.getD k (0, 0)).1 = n then ((l.getD k (0, 0)).2, true) else lastV l n k
theorem lastV_iff (l : List (Int × Int)) (n : Int) : ∀ k, k ≤ l.length → ((lastV l n k).2 = true ↔ n ∈ (l.take k).map Prod.fst)
  | 0, _ => by simp [lastV]
  | k + 1, hk => by
    have hk' : k < l.length := by omega
    have e : l.getD k (0, 0) = l[k] := by simp [List.getD, hk']
    rw [lastV, e, List.take_succ_eq_append_getElem hk', List.map_append, List.mem_append, ← lastV_iff l n k (by omega)]
    by_cases h : l[k].1 = n
    · simp [h]
    · rw [if_neg h]
      simp [Ne.symm h]
def InvLs (H : Heap) (x : Value) (l : List (Int × Int)) (n : Int) (k : Nat) (t : Tm) (H1 : Heap) : Prop :=
  ∃ i : Nat, i = k ∧ i ≤ l.length ∧ t 0 = x ∧ t 1 = iv n ∧ t 6 = iv ((i : Int) - 1) ∧ lastV l n i = lastV l n l.length ∧ H1 = H
theorem last_T {H : Heap} {x : Value} {l : List (Int × Int)} (hx : Twos H x l) (hl : l.length ≤ 100000) (n : Int) : T Tryz.prog 121 [x, iv n] H (.tuple #[iv (lastV l n l.length).1, .bool (lastV l n l.length).2]) H := by
  obtain ⟨R, hR⟩ : ∃ R, R = lastV l n l.length := ⟨_, rfl⟩
  rw [← hR]
  refine T_eq hm light121 ?_
  obtain ⟨ax, cx, hxv⟩ := hx.len
  have w1 : IntKind.i64.wrap ((l.length : Int) - 1) = (l.length : Int) - 1 := w64 _ (by omega)
  rw [hxv]
  simp [L121, w1]
  rw [← hxv]
  refine loop_at (InvLs H x l n) l.length ?_ ?_
  · exact ⟨l.length, rfl, Nat.le_refl _, by simp, by simp, by simp, rfl, rfl⟩
  · rintro k t H1 ⟨i, rfl, hil, t0, t1, t6, hla, rfl⟩
    cases i with
    | zero =>
      have hla : lastV l n 0 = R := by rw [hla, hR]
      have : R = (0, false) := hla.symm
      have c1 : ¬ (0 : Int) ≤ ((0 : Nat) : Int) - 1 := by omega
      rw [this]
      simp [L121_1, t6]
    | succ k =>
      have hk : k < l.length := by omega
      have hkI : (k : Int) < (l.length : Int) := by omega
      have e1 : ((k + 1 : Nat) : Int) - 1 = (k : Int) := by omega
      rw [e1] at t6
      have w2 : IntKind.i64.wrap ((k : Int) - 1) = (k : Int) - 1 := w64 _ (by omega)
      have e : l.getD k (0, 0) = l[k] := by simp [List.getD, hk]
      rw [lastV, e] at hla
      obtain ⟨b, off, c, hxb, l0, l1⟩ := hx.at hk
      have t0' := t0
      rw [hxb] at t0
      by_cases h : l[k].1 = n
      · rw [if_pos h, ← hR] at hla
        rw [h] at l0
        rw [← hla]
        simp [L121_1, t6, t0, hk, hkI, l0, t1, l1]
      · rw [if_neg h] at hla
        have hb : (l[k].1 == n) = false := by simpa using h
        simp [L121_1, t6, t0, hk, hkI, l0, t1, hb, w2]
        exact ⟨k, by omega, k, rfl, by omega, by simp [t0'], by simp [t1], by simp, hla, rfl⟩
theorem twos_take {H : Heap} {x : Value} {l : List (Int × Int)} (h : Twos H x l) {j : Nat} (hj : j ≤ l.length) : ∃ y, sSlice 2 x none (some (iv j)) none = some y ∧ Twos H y (l.take j) := by
  rcases h with ⟨rfl, rfl⟩ | ⟨b, off, c, rfl, hh⟩
  · have hj0 : j = 0 := by simpa using hj
    subst hj0
    exact ⟨.slice none 0 0, by simp [sSlice, bnd], .inl ⟨rfl, by simp⟩⟩
  · have hlen : (l.take j).length = j := by rw [List.length_take]; omega
    obtain ⟨c', hc'⟩ : ∃ c', sSlice 2 (.slice (some ⟨b, off, none⟩) l.length c) none (some (iv j)) none = some (.slice (some ⟨b, off, none⟩) j c') := by
      simp only [sSlice, bnd]
      simp [hj, add_own]
    refine ⟨_, hc', .inr ⟨b, off, c', by rw [hlen], fun k hk => ?_⟩⟩
    rw [hlen] at hk
    have := hh k (by omega)
    simp only [List.getElem_take]
    exact this
def InvO1 (H : Heap) (w : Int) (x : Value) (l : List (Int × Int)) (E : Int) (k : Nat) (t : Tm) (H1 : Heap) : Prop :=
  ∃ i : Nat, i + k = l.length ∧ t 0 = iv w ∧ t 1 = x ∧ t 6 = iv i ∧ ofGo w (l.drop i) ((l.take i).map Prod.fst) = E ∧ H1 = H
def InvO2 (H : Heap) (w : Int) (wn : Nat) (x : Value) (k : Nat) (t : Tm) (H1 : Heap) : Prop :=
  ∃ (i : Nat) (cells : List Value) (y : Value), i + k = wn ∧ t 0 = iv w ∧ t 1 = x ∧ t 9 = y ∧ t 10 = iv i ∧ Row H H1 2 1 i cells y
theorem refOf_N {H : Heap} (hw : H.WF) (w : Int) {x : Value} {l : List (Int × Int)} (hx : Twos H x l) (hl : l.length ≤ 100000) : TN Tryz.prog 88 [iv w, x] H (OfQ H (ofE w l)) := by
  refine N_by hm light88 ?_
  obtain ⟨ax, cx, hxv⟩ := hx.len
  by_cases w1 : w < 1
  · have hE : ofE w l = 130 := by unfold ofE; rw [if_pos (.inl w1)]
    rw [hE]
    simp [L88, w1]
    exact ⟨⟨_, _, _, rfl⟩, On.refl hw⟩
  by_cases w64' : 64 < w
  · have hE : ofE w l = 130 := by unfold ofE; rw [if_pos (.inr w64')]
    rw [hE]
    simp [L88, w1, w64']
    exact ⟨⟨_, _, _, rfl⟩, On.refl hw⟩
  obtain ⟨E, hE⟩ : ∃ E, E = ofE w l := ⟨_, rfl⟩
  rw [← hE]
  unfold ofE at hE
  rw [if_neg (by omega)] at hE
  obtain ⟨wn, hwn⟩ : ∃ wn, wn = w.toNat := ⟨_, rfl⟩
  have ewn : w = (wn : Int) := by omega
  simp [L88, w1, w64']
  refine loopN_at (InvO1 H w x l E) l.length ?_ ?_
  · exact ⟨0, by omega, by simp, by simp, by simp, by simpa using hE.symm, rfl⟩
  · rintro k t H1 ⟨i, hik, t0, t1, t6, hgo, rfl⟩
    have t1' := t1
    cases k with
    | zero =>
      have ei : l.drop i = [] := List.drop_eq_nil_iff.2 (by omega)
      rw [ei] at hgo
      have hE0 : E = 0 := hgo.symm
      have e1 : ¬ ((i : Int) < l.length) := by omega
      have e1' : ¬ i < l.length := by omega
      rw [hxv] at t1
      simp [L88_1, t6, t1, e1, e1']
      refine loopN_at (InvO2 H1 w wn x) wn ?_ ?_
      · exact ⟨0, [], .slice none 0 0, by omega, by simp [t0], by simp [t1'], by simp, by simp, Row.nil hw _ _⟩
      · rintro k2 tt H2 ⟨j, cells, y, hjk, u0, u1, u9, u10, row⟩
        obtain ⟨ay, hy⟩ := row.own.len
        cases k2 with
        | zero =>
          have c1 : ¬ (j : Int) < w := by omega
          rw [hy] at u9
          simp [L88_2, u10, u0, c1, u9]
          rw [hE0]
          exact ⟨⟨_, _, _, rfl⟩, row.on⟩
        | succ k2 =>
          have c1 : (j : Int) < w := by omega
          have e5 : IntKind.i64.wrap ((j : Int) + 1) = ((j + 1 : Nat) : Int) := by rw [w64 _ (by omega)]; omega
          obtain ⟨jN, hjN⟩ : ∃ m : Nat, m = j + 1 := ⟨_, rfl⟩
          rw [← hjN] at e5
          have lT := last_T (hx.keep hw row.on.base row.on.keep) hl (j : Int)
          obtain ⟨v, hv⟩ : ∃ v, v = (lastV l (j : Int) l.length).1 := ⟨_, rfl⟩
          rw [← hv] at lT
          obtain ⟨z, H3, ap, row3⟩ := row_push 8 row (e := [iv v]) rfl (by decide) (by omega)
          have hz2 : zerosA [iv 0] 1 = [iv 0] := rfl
          rw [← hjN] at row3
          simp [L88_2, u10, u0, c1, u1]
          refine goN_T lT ?_
          simp [u9, hz2, ap, u10, e5]
          exact ⟨k2, by omega, jN, _, z, by omega, by simp [u0], by simp [u1], by simp, by simp, row3⟩
    | succ k =>
      have hil : i < l.length := by omega
      have e1 : ((i : Int) < l.length) := by omega
      have e4 : IntKind.i64.wrap ((i : Int) + 1) = ((i + 1 : Nat) : Int) := by rw [w64 _ (by omega)]; omega
      obtain ⟨iN, hiN⟩ : ∃ n : Nat, n = i + 1 := ⟨_, rfl⟩
      rw [← hiN] at e4
      obtain ⟨b, off, c, hxb, ld0, _⟩ := hx.at hil
      rw [List.drop_eq_getElem_cons hil, ofGo, ← hiN] at hgo
      have htk : (l.take iN).map Prod.fst = (l.take i).map Prod.fst ++ [l[i].1] := by rw [hiN, List.take_succ_eq_append_getElem hil, List.map_append]; rfl
      obtain ⟨y, hy, ty⟩ := twos_take hx (j := i) (by omega)
      have lT := last_T ty (by rw [List.length_take]; omega) l[i].1
      have hiff := lastV_iff (l.take i) l[i].1 (l.take i).length (Nat.le_refl _)
      rw [List.take_length] at hiff
      obtain ⟨e, he⟩ : ∃ e, e = l[i] := ⟨_, rfl⟩
      rw [← he] at ld0 hgo htk lT hiff
      rw [hxb] at t1 hy
      by_cases e0 : e.1 < 0
      · rw [if_pos (.inl e0)] at hgo
        simp [L88_1, t6, t1, e1, hil, ld0, e0]
        rw [← hgo]
        exact ⟨⟨_, _, _, rfl⟩, On.refl hw⟩
      by_cases ew : w ≤ e.1
      · rw [if_pos (.inr ew)] at hgo
        simp [L88_1, t6, t1, e1, hil, ld0, e0, t0, ew]
        rw [← hgo]
        exact ⟨⟨_, _, _, rfl⟩, On.refl hw⟩
      rw [if_neg (by omega)] at hgo
      obtain ⟨R, hR⟩ : ∃ R, R = lastV (l.take i) e.1 (l.take i).length := ⟨_, rfl⟩
      rw [← hR] at lT hiff
      obtain ⟨R1, R2⟩ := R
      simp only at lT hiff
      by_cases hs : e.1 ∈ (l.take i).map Prod.fst
      · rw [if_pos hs] at hgo
        have h2 : R2 = true := hiff.2 hs
        rw [h2] at lT
        simp [L88_1, t6, t1, e1, hil, ld0, e0, t0, ew, hy]
        refine goT_of lT ?_
        simp
        rw [← hgo]
        exact ⟨⟨_, _, _, rfl⟩, On.refl hw⟩
      · rw [if_neg hs] at hgo
        have h2 : R2 = false := by
          cases R2 with
          | false => rfl
          | true => exact absurd (hiff.1 rfl) hs
        rw [h2] at lT
        simp [L88_1, t6, t1, e1, hil, ld0, e0, t0, ew, hy]
        refine goT_of lT ?_
        simp [t6, e4]
        exact ⟨k, by omega, iN, by omega, by simp [t0], by simp [t1', hxb], by simp, by rw [htk]; exact hgo, rfl⟩
end Go.Proofs.YtnomffikflfilaaGreat
namespace Go.Proofs.YtnomffikflfilaaGreat
open Go.Ot Go.RowKit
open R14 (Twos)
set_option linter.unusedSimpArgs false
set_option linter.unusedVariables false
theorem out_T {H : Heap} (n lo hi : Int) : T Tryz.prog 91 [iv n, iv lo, iv hi] H (.bool (outV n lo hi)) H := by
  refine T_eq hm light91 ?_
  by_cases h1 : n < lo
  · simp [L91, h1, outV]
  · by_cases h2 : hi < n
    · simp [L91, h1, h2, outV]
    · simp [L91, h1, h2, outV]
theorem refRight_T {H : Heap} (hw : H.WF) (C : Cfg) : T Tryz.prog 46 [.agg (cfgC C).toArray] H (iv (rightE C)) H := by
  obtain ⟨E, hE⟩ : ∃ E, E = rightE C := ⟨_, rfl⟩
  rw [← hE]
  refine T_seen hm light46 rfl ?_
  have vr : Vr (H.new 32 11 (cfgC C)) H.next 32 11 (cfgC C) := Vr.mk' hw _ _ _
  have on : On H (H.new 32 11 (cfgC C)) := (On.refl hw).new _ _ _
  obtain ⟨G, hG⟩ : ∃ G, G = H.new 32 11 (cfgC C) := ⟨_, rfl⟩
  rw [← hG] at vr on
  have l0 : G.load ⟨H.next, 0, none⟩ = some (iv C.workers) := vr.load 0
  have l1 : G.load ⟨H.next, 1, none⟩ = some (iv C.window) := vr.load 1
  have l2 : G.load ⟨H.next, 2, none⟩ = some (iv C.policy) := vr.load 2
  have l3 : G.load ⟨H.next, 3, none⟩ = some (iv C.chunk) := vr.load 3
  have l4 : G.load ⟨H.next, 4, none⟩ = some (iv C.reads) := vr.load 4
  have l5 : G.load ⟨H.next, 5, none⟩ = some (iv C.writes) := vr.load 5
  have l6 : G.load ⟨H.next, 6, none⟩ = some (iv C.outs) := vr.load 6
  have l7 : G.load ⟨H.next, 7, none⟩ = some (iv C.arena) := vr.load 7
  have l8 : G.load ⟨H.next, 8, none⟩ = some (iv C.edges) := vr.load 8
  have l9 : G.load ⟨H.next, 9, none⟩ = some (iv C.retry) := vr.load 9
  unfold rightE at hE
  simp [L46, ← hG, l0]
  refine goT_of (out_T _ _ _) ?_
  cases h1 : outV C.workers 1 8 with
  | true =>
    rw [if_pos h1] at hE
    simp [hE]
    exact on.keep
  | false =>
    rw [if_neg (by simp [h1])] at hE
    simp [l2]
    refine goT_of (out_T _ _ _) ?_
    cases h2 : outV C.policy 1 3 with
    | true =>
      rw [if_pos h2] at hE
      simp [hE]
      exact on.keep
    | false =>
      rw [if_neg (by simp [h2])] at hE
      simp [l3]
      refine goT_of (out_T _ _ _) ?_
      cases h3 : outV C.chunk 1 200 with
      | true =>
        rw [if_pos h3] at hE
        simp [hE]
        exact on.keep
      | false =>
        rw [if_neg (by simp [h3])] at hE
        have bad : (manyV C = true ∨ outV C.retry 0 9 = true) → E = 172 := fun h => by rw [hE, if_pos h]
        unfold manyV at hE bad
        simp [l1]
        refine goT_of (out_T _ _ _) ?_
        cases h4 : outV C.window 1 32 with
        | true =>
          have := bad (by simp [h4])
          simp [this]
          exact on.keep
        | false =>
          simp [l4]
          refine goT_of (out_T _ _ _) ?_
          cases h5 : outV C.reads 1 64 with
          | true =>
            have := bad (by simp [h5])
            simp [this]
            exact on.keep
          | false =>
            simp [l5]
            refine goT_of (out_T _ _ _) ?_
            cases h6 : outV C.writes 1 64 with
            | true =>
              have := bad (by simp [h6])
              simp [this]
              exact on.keep
            | false =>
              simp [l6]
              refine goT_of (out_T _ _ _) ?_
              cases h7 : outV C.outs 1 64 with
              | true =>
                have := bad (by simp [h7])
                simp [this]
                exact on.keep
              | false =>
                simp [l7]
                refine goT_of (out_T _ _ _) ?_
                cases h8 : outV C.arena 1 512 with
                | true =>
                  have := bad (by simp [h8])
                  simp [this]
                  exact on.keep
                | false =>
                  simp [l8]
                  refine goT_of (out_T _ _ _) ?_
                  cases h9 : outV C.edges 1 512 with
                  | true =>
                    have := bad (by simp [h9])
                    simp [this]
                    exact on.keep
                  | false =>
                    simp [l9]
                    refine goT_of (out_T _ _ _) ?_
                    cases h10 : outV C.retry 0 9 with
                    | true =>
                      have := bad (by simp [h10])
                      simp [this]
                      exact on.keep
                    | false =>
                      rw [if_neg (by simp [h4, h5, h6, h7, h8, h9, h10])] at hE
                      simp [hE]
                      exact on.keep
end Go.Proofs.YtnomffikflfilaaGreat
namespace Go.Proofs.YtnomffikflfilaaGreat
open Go.Ot Go.RowKit
open R14 (Twos chkC NewQ)
open I8 (In rowI checkV)
set_option linter.unusedSimpArgs false
set_option linter.unusedVariables false
theorem refChk_T {H : Heap} (hw : H.WF) {x : Value} {l : List In} (hx : Rws H 6 x (l.map rowI)) (hk : ∀ a ∈ l, I8.okI a.kind) (cells : Int) : T Tryz.prog 82 [x, iv cells] H (.tuple #[iv (checkV l cells).1, iv (checkV l cells).2]) H := by
  obtain ⟨v, H', hT, rfl, hs⟩ := E8.checkR_T hw (l := l.map toE) (by rw [toE_rows]; exact hx) (fun a ha => by
    obtain ⟨b, hb, rfl⟩ := List.mem_map.1 ha
    exact hk b hb) cells
  rw [check_toE] at hT
  exact T_forget hT (fun b hb => hs b hb (by simp)) rfl
def InvVd (H : Heap) (J : Jb) (p : Nat) (k : Nat) (t : Tm) (H1 : Heap) : Prop :=
  ∃ i : Nat, i + k = J.codes.length ∧ t 1 = ptr p ∧ t 5 = iv J.codes.length ∧ t 6 = iv i ∧ codeE J.reds.length (J.codes.drop i) = codeE J.reds.length J.codes ∧ H1 = H
theorem refCode_loop {H : Heap} (hw : H.WF) {J : Jb} (ok : JbOk H J) {p : Nat} (jl : JL H p J) {Q : Post} {t : Tm} (t1 : t 1 = ptr p) (t5 : t 5 = iv J.codes.length) (t6 : t 6 = iv 0)
    (hE : ∀ tt : Tm, codeE J.reds.length J.codes = 0 → Q (.exit 0) tt (rdy H)) (hR : ∀ tt : Tm, tt 2 = iv (codeE J.reds.length J.codes) → Q .ret tt (rdy H)) : wpN Tryz.prog (.loop L45_1) Q t (rdy H) := by
  refine loopN_at (InvVd H J p) J.codes.length ?_ ?_
  · exact ⟨0, by omega, t1, t5, t6, by simp, rfl⟩
  · rintro k t H1 ⟨i, hik, t1, t5, t6, hc, rfl⟩
    have nk := ok.nk
    cases k with
    | zero =>
      have e1 : ¬ ((i : Int) < J.codes.length) := by omega
      have e1' : ¬ i < J.codes.length := by omega
      have ei : J.codes.drop i = [] := List.drop_eq_nil_iff.2 (by omega)
      rw [ei] at hc
      simp [L45_1, t6, t5, e1, e1']
      exact hE _ hc.symm
    | succ k =>
      have hil : i < J.codes.length := by omega
      have e1 : ((i : Int) < J.codes.length) := by omega
      have e4 : IntKind.i64.wrap ((i : Int) + 1) = ((i + 1 : Nat) : Int) := by rw [w64 _ (by omega)]; omega
      obtain ⟨iN, hiN⟩ : ∃ n : Nat, n = i + 1 := ⟨_, rfl⟩
      rw [← hiN] at e4
      obtain ⟨b, off, c, y, hxb, ldy, ry⟩ := ok.xk.at hil
      obtain ⟨ar, cr, hxr⟩ := ok.xr.len
      obtain ⟨ay, cy, hy⟩ := ry.len
      have hnt : notTup y = true := by rw [hy]; rfl
      have cT := refChk_T hw ry (ok.kinds _ (List.getElem_mem hil)) (J.reds.length : Int)
      rw [List.drop_eq_getElem_cons hil, codeE, ← hiN] at hc
      have l2 := jl.l2
      rw [hxr] at l2
      have l10 := jl.l10
      rw [hxb] at l10
      obtain ⟨V1, hV1⟩ : ∃ v, v = (checkV J.codes[i] (J.reds.length : Int)).1 := ⟨_, rfl⟩
      obtain ⟨V2, hV2⟩ : ∃ v, v = (checkV J.codes[i] (J.reds.length : Int)).2 := ⟨_, rfl⟩
      rw [← hV1, ← hV2] at cT
      rw [← hV2] at hc
      simp [L45_1, t6, t5, e1, hil, t1, l10, ldy, l2, hnt]
      refine goT_of cT ?_
      by_cases h0 : V2 = 0
      · rw [if_neg (by simp [h0])] at hc
        simp [h0, t6, e4, l10, ldy, l2]
        exact ⟨k, by omega, iN, by omega, by simp [t1], by simp [t5], by simp, hc, rfl⟩
      · have h0b : (V2 != 0) = true := by simpa using h0
        rw [if_pos h0] at hc
        simp [h0b, h0, l10, ldy, l2]
        exact hR _ (by simp [← hc])
theorem refValid_N {H : Heap} (hw : H.WF) {J : Jb} (ok : JbOk H J) : TN Tryz.prog 45 [.agg (jobC J).toArray] H (fun o H' => o = .ret (iv (validE J)) ∧ On H H') := by
  refine N_by hm light45 ?_
  obtain ⟨E, hE⟩ : ∃ E, E = validE J := ⟨_, rfl⟩
  rw [← hE]
  obtain ⟨G, hG⟩ : ∃ G, G = H.new 29 11 (jobC J) := ⟨_, rfl⟩
  have on : On H G := by rw [hG]; exact (On.refl hw).new _ _ _
  have vr : Vr G H.next 29 11 (jobC J) := by rw [hG]; exact Vr.mk' hw _ _ _
  have okG := ok.on hw on
  have jl := JL.of vr
  unfold validE at hE
  simp [L45, ← hG, jl.l0, jl.l1]
  refine goN_of (refOf_N on.wf J.words okG.xc (by have := ok.nc; omega)) ?_
  rintro r H1 ⟨⟨a, n, c, rfl⟩, on1⟩ w1 _ _
  by_cases h1 : ofE J.words J.cells = 0
  · rw [if_neg (by simp [h1])] at hE
    have jl1 := JL.of (vr.on on.wf on1)
    have ok1 := okG.on on.wf on1
    have onH1 := on.trans on1
    rw [h1]
    simp [jl1.l2]
    refine goN_T (R14.check_T ok1.xr (by have := ok.nr; omega)) ?_
    by_cases h2 : chkC J.reds = 0
    · rw [if_neg (by simp [h2])] at hE
      rw [h2]
      by_cases f1 : J.fuel < 1
      · rw [if_pos (.inl f1)] at hE
        simp [jl1.l3, f1, hE]
        exact onH1
      by_cases f2 : 4000 < J.fuel
      · rw [if_pos (.inr f2)] at hE
        simp [jl1.l3, f1, f2, hE]
        exact onH1
      rw [if_neg (by omega)] at hE
      simp [jl1.l3, f1, f2, jl1.lS]
      refine goN_of (tasks_N w1 J.S ok.S) ?_
      rintro r H2 ⟨y, m, cells, rfl, row2, _⟩ w2 _ _
      have onG2 := on1.trans row2.on
      have jl2 := JL.of (vr.on on.wf onG2)
      have ok2 := okG.on on.wf onG2
      have onH2 := on.trans onG2
      obtain ⟨ay, hy⟩ := row2.own.len
      have hnt : notTup y = true := by rw [hy]; rfl
      by_cases h3 : (cntP J.S).2 = 0
      · rw [if_neg (by simp [h3])] at hE
        rw [h3]
        obtain ⟨ak, ck, hxk⟩ := ok.xk.len
        have l10 := jl2.l10
        rw [hxk] at l10
        have fin : ∀ (tt : Tm) (Q : Post), tt 1 = ptr H.next → tt 5 = iv (stgV J.S) → (∀ t2 : Tm, Q .ret t2 (rdy H2) = EndN (fun o H' => o = .ret (iv E) ∧ On H H') [.tmp 2] .ret t2 (rdy H2)) →
            (∀ t2 : Tm, Q (.exit 0) t2 (rdy H2) = wpN Tryz.prog ((LCode.region [⟨some 2, .move (.const (.int .i64 0)), none⟩]).seq .ret) (EndN (fun o H' => o = .ret (iv E) ∧ On H H') [.tmp 2]) t2 (rdy H2)) → (J.codes.length : Int) = stgV J.S → tt 6 = iv 0 → wpN Tryz.prog (.loop L45_1) Q tt (rdy H2) := by
          intro tt Q u1 u5 hQ1 hQ2 h4 u6
          rw [if_neg (by simp [h4])] at hE
          refine refCode_loop w2 ok2 jl2 u1 (by rw [u5, h4]) u6 ?_ ?_
          · intro t2 h0
            rw [h0] at hE
            rw [hQ2]
            simp [hE]
            exact onH2
          · intro t2 v2
            rw [hQ1]
            simp [v2, hE]
            exact onH2
        by_cases h4 : (J.codes.length : Int) = stgV J.S
        · have h4b : ((J.codes.length : Int) != stgV J.S) = false := by simp [h4]
          unfold stgV at h4b h4 fin
          by_cases k2 : J.S.kind = 2
          · rw [if_pos k2] at h4b h4 fin
            have k2b : (J.S.kind == 2) = true := by simpa using k2
            simp [hnt, jl2.l4, k2b, k2, jl2.l9, l10, h4b, h4]
            exact fin _ _ (by simp) (by simp) (fun t2 => by simp) (fun t2 => by simp) h4 (by simp)
          · rw [if_neg k2] at h4b h4 fin
            have k2b : (J.S.kind == 2) = false := by simpa using k2
            simp [hnt, jl2.l4, k2b, k2, jl2.l9, l10, h4b, h4]
            exact fin _ _ (by simp) (by simp) (fun t2 => by simp) (fun t2 => by simp) h4 (by simp)
        · rw [if_pos h4] at hE
          have h4b : ((J.codes.length : Int) != stgV J.S) = true := by simpa using h4
          unfold stgV at h4b h4
          by_cases k2 : J.S.kind = 2
          · rw [if_pos k2] at h4b h4
            have k2b : (J.S.kind == 2) = true := by simpa using k2
            simp [hnt, jl2.l4, k2b, k2, jl2.l9, l10, h4b, h4, hE]
            exact onH2
          · rw [if_neg k2] at h4b h4
            have k2b : (J.S.kind == 2) = false := by simpa using k2
            simp [hnt, jl2.l4, k2b, k2, jl2.l9, l10, h4b, h4, hE]
            exact onH2
      · rw [if_pos h3] at hE
        have h3b : ((cntP J.S).2 != 0) = true := by simpa using h3
        simp [hnt, h3b, h3, hE]
        exact onH2
    · rw [if_pos h2] at hE
      have h2b : (chkC J.reds != 0) = true := by simpa using h2
      simp [h2b, h2, hE]
      exact onH1
  · rw [if_pos h1] at hE
    have h1b : (ofE J.words J.cells != 0) = true := by simpa using h1
    simp [h1b, h1, hE]
    exact on.trans on1
theorem refValid_T {H : Heap} (hw : H.WF) {J : Jb} (ok : JbOk H J) : T Tryz.prog 45 [.agg (jobC J).toArray] H (iv (validE J)) H := T_of_On rfl (refValid_N hw ok)
end Go.Proofs.YtnomffikflfilaaGreat
