/-
  Chapter 25: the document's Tasks: how many.
-/
import Derived.Test.YtmdlfenileiaeaaSeatBB
namespace Go.Proofs.Ytmdlfenileiaeaa
open Go.Ot Go.RowKit
set_option linter.unusedSimpArgs false
set_option linter.unusedVariables false
theorem src_own {H : Heap} {ety y sz : Nat} {e : List Value} (hy : ¬ y < H.B) (hv : H.blk y = some ⟨ety, sz, e⟩) (he : e.length = sz) (h0 : 0 < sz) (c : Nat) : srcCells H sz (.slice (some ⟨y, 0, none⟩) 1 c) = some (1, e) := by
  rw [src_at (ety := ety) (cs := e) hy hv (by omega)]
  simp [← he]
theorem row_push {H H1 : Heap} {ety sz n : Nat} (bytes : Nat) {cells e : List Value} {x : Value} (h : Row H H1 ety sz n cells x) (he : e.length = sz) (h0 : 0 < sz) (hb : (n + 1) * bytes ≤ 140737488355328) :
    ∃ z H3, sAppend (H1.new ety sz e) ety sz bytes x (.slice (some ⟨H1.next, 0, none⟩) 1 0) = some (z, H3) ∧ Row H H3 ety sz (n + 1) (cells ++ e) z := by
  obtain ⟨own, on, new⟩ := h
  have hnB := on.wf.next_ge
  have o : On H1 (H1.new ety sz e) := (On.refl on.wf).new _ _ _
  have own2 := Own.on on.wf own o
  have on2 := on.trans o
  have hs := src_own (H := H1.new ety sz e) (ety := ety) (y := H1.next) (sz := sz) (e := e) (by simpa using hnB) (by simp) he h0 0
  refine ⟨_, _, append_any own2 hs (by decide) hb, ⟨?_, ?_, ?_⟩⟩
  · refine Own.mk (by rw [List.length_append, own.1, he, Nat.add_mul, Nat.one_mul]) ?_ (by simp)
    simpa using o.wf.next_ge
  · refine ⟨WF_new (WF_drop o.wf _) _ _ _, by simpa using on2.base, by have := on2.next; simp at this ⊢; omega, fun b hb => ?_⟩
    have := on2.next
    have h2 : blkOf x ≠ some b := fun hx => by have := new b hx; omega
    have h3 : b ≠ (H1.new ety sz e).next := by omega
    rw [blk_new, if_neg (by simpa using h3), blk_drop, if_neg h2, on2.keep b hb]
  · intro b hb
    have : (H1.new ety sz e).next = b := by simpa using hb
    have := on2.next
    omega
theorem way_lt (S : Shp) (h0 : S.step ≠ 0) {m : Int} (hm : 0 ≤ m) : (0 < S.step → (S.lo + m * S.step < S.hi ↔ m < wayN S)) ∧ (S.step < 0 → (S.hi < S.lo + m * S.step ↔ m < wayN S)) := by
  constructor
  · intro hs
    unfold wayN
    rw [if_pos hs]
    by_cases h : S.lo < S.hi
    · rw [if_pos h]
      have := Int.le_ediv_iff_mul_le (a := m) (b := S.hi - S.lo - 1) hs
      omega
    · rw [if_neg h]
      have := Int.mul_nonneg hm (Int.le_of_lt hs)
      omega
  · intro hs
    unfold wayN
    rw [if_neg (by omega)]
    have hneg : m * (-S.step) = -(m * S.step) := by rw [Int.mul_neg]
    by_cases h : S.hi < S.lo
    · rw [if_pos h]
      have := Int.le_ediv_iff_mul_le (a := m) (b := S.lo - S.hi - 1) (c := -S.step) (by omega)
      omega
    · rw [if_neg h]
      have := Int.mul_nonneg hm (b := -S.step) (by omega)
      omega
def TasksQ (H : Heap) (S : Shp) (o : Out) (H' : Heap) : Prop := ∃ y n cells, o = .ret (.tuple #[y, iv (cntP S).2]) ∧ Row H H' 104 2 n cells y ∧ (n : Int) = (cntP S).1
def InvA1 (H HB : Heap) (S : Shp) (p : Nat) (k : Nat) (t : Tm) (H1 : Heap) : Prop :=
  ∃ (m : Nat) (cells : List Value) (x : Value) (i : Int), m + k = 201 ∧ t 1 = ptr p ∧ t 4 = x ∧ t 5 = iv i ∧ i = S.lo + m * S.step ∧ okW i ∧ Row HB H1 104 2 m cells x ∧ (m : Int) ≤ wayN S ∧ m ≤ 200
def InvA3 (HB : Heap) (p it sg : Nat) (k : Nat) (t : Tm) (H1 : Heap) : Prop :=
  ∃ (i : Nat) (cells : List Value) (x : Value), i + k = it ∧ t 1 = ptr p ∧ t 4 = x ∧ t 7 = iv i ∧ Row HB H1 104 2 (i * sg) cells x ∧ i * sg ≤ 200
def InvA2 (HB : Heap) (p i sg : Nat) (k : Nat) (t : Tm) (H1 : Heap) : Prop :=
  ∃ (j : Nat) (cells : List Value) (x : Value), j + k = sg ∧ t 1 = ptr p ∧ t 4 = x ∧ t 7 = iv i ∧ t 8 = iv j ∧ Row HB H1 104 2 (i * sg + j) cells x
def blkC1 : LCode → LCode | .block _ c => c | c => c
def seqL1 : LCode → LCode | .seq a _ => a | c => c
def seqR1 : LCode → LCode | .seq _ b => b | c => c
def L34r : LCode := seqR1 (blkC1 (seqR1 L34_1))
def L34s : LCode := seqR1 L34r
theorem L34_1_eq : L34_1 = .seq (seqL1 L34_1) (.block 1 (.seq (seqL1 (blkC1 (seqR1 L34_1))) (.seq (seqL1 L34r) L34s))) := rfl
theorem way_loop {G : Heap} (wG : G.WF) (S : Shp) (ok : ShpOk S) {p : Nat} (vr : Vr G p 47 6 (shpC S)) (h0 : S.step ≠ 0) {Q : Post} {t : Tm} (t1 : t 1 = ptr p) (t4 : t 4 = .slice none 0 0) (t5 : t 5 = iv S.lo)
    (hE : ∀ (tt : Tm) H' (m : Nat) cells x, tt 4 = x → Row G H' 104 2 m cells x → (m : Int) = wayN S → m ≤ 200 → Q (.exit 0) tt (rdy H'))
    (hR : ∀ (tt : Tm) H', tt 2 = .slice none 0 0 → tt 3 = iv 151 → On G H' → 200 < wayN S → Q .ret tt (rdy H')) : wpN Try.prog (.loop L34_1) Q t (rdy G) := by
  obtain ⟨o1, o2, o3, o4, o5⟩ := ok
  have o1' := o1
  unfold okW at o1 o2 o3 o4 o5
  have hge := wayN_ge S
  have ld : ∀ {H1 : Heap}, On G H1 → H1.load ⟨p, 2, none⟩ = some (iv S.hi) ∧ H1.load ⟨p, 3, none⟩ = some (iv S.step) := by
    intro H1 o
    have v := vr.on wG o
    exact ⟨v.load 2, v.load 3⟩
  refine loopN_at (InvA1 G G S p) 201 ?_ ?_
  · exact ⟨0, [], .slice none 0 0, S.lo, by omega, t1, t4, t5, by simp, o1', Row.nil wG _ _, by simpa using hge, by omega⟩
  · rintro k t H1 ⟨m, cells, x, i, hk, t1, t4, t5, hi, hoi, row, hmN, hm200⟩
    obtain ⟨wl1, wl2⟩ := way_lt S h0 (m := (m : Int)) (by omega)
    obtain ⟨wn1, wn2⟩ := way_lt S h0 (m := ((m + 1 : Nat) : Int)) (by omega)
    rw [← hi] at wl1 wl2
    have hnext : S.lo + ((m + 1 : Nat) : Int) * S.step = i + S.step := by
      rw [hi, show ((m + 1 : Nat) : Int) = (m : Int) + 1 by omega, Int.add_mul, Int.one_mul]; omega
    rw [hnext] at wn1 wn2
    obtain ⟨l2, l3⟩ := ld row.on
    unfold okW at hoi
    obtain ⟨z, H3, ap, row3⟩ := row_push 16 row (e := [iv i, iv 0]) rfl (by decide) (by omega)
    obtain ⟨l23, l33⟩ := ld row3.on
    obtain ⟨az, hz⟩ := row3.own.len
    have hz2 : zerosA [iv 0, iv 0] 2 = [iv 0, iv 0] := rfl
    obtain ⟨mN, hmN'⟩ : ∃ mN, mN = m + 1 := ⟨_, rfl⟩
    rw [← hmN'] at row3 hz wn1 wn2 hnext
    have e : ∀ n : Int, IntKind.i64.wrap n = (n + 9223372036854775808) % 18446744073709551616 - 9223372036854775808 := fun n => by
      simp only [IntKind.wrap, IntKind.bits, IntKind.signed]
      have := Int.emod_nonneg n (b := 18446744073709551616) (by decide)
      simp
      split <;> omega
    have hAdd : ∃ w, IntKind.i64.wrap (i + S.step) = w ∧ (w = i + S.step ∨ (0 < S.step ∧ w < i ∧ 9223372036854775807 < i + S.step) ∨ (S.step < 0 ∧ i < w ∧ i + S.step < -9223372036854775808)) ∧ okW w := by
      refine ⟨_, rfl, ?_, ?_⟩
      · rw [e]; omega
      · unfold okW; rw [e]; omega
    obtain ⟨w, hw1, hw2, hw3⟩ := hAdd
    rw [hz] at ap
    rw [L34_1_eq]
    by_cases hs : 0 < S.step
    · have wl := wl1 hs
      have wn := wn1 hs
      have hs' : ¬ S.step < 0 := by omega
      by_cases hlt : i < S.hi
      · have hmlt := wl.1 hlt
        by_cases hov : 200 < mN
        · have hovI : (200 : Int) < (mN : Int) := by omega
          simp [L34_1, L34r, seqL1, seqR1, blkC1, t1, l3, hs, t5, l2, hlt, t4, hz2, ap, hov, hovI]
          exact hR _ _ (by simp) (by simp) row3.on (by omega)
        · have hovI : ¬ (200 : Int) < (mN : Int) := by omega
          simp [L34_1, L34r, seqL1, seqR1, blkC1, t1, l3, hs, t5, l2, hlt, t4, hz2, ap, hov, hovI]
          by_cases hwi : w < i
          · simp [L34s, L34r, L34_1, seqR1, blkC1, t1, t5, l33, hs, hw1, hwi]
            exact hE _ _ mN _ z (by simp [hz]) row3 (by
              have hno : ¬ (mN : Int) < wayN S := by rw [← wn]; omega
              omega) (by omega)
          · simp [L34s, L34r, L34_1, seqR1, blkC1, t1, t5, l33, hs, hs', hw1, hwi]
            exact ⟨k - 1, by omega, mN, _, z, w, by omega, by simp [t1], by simp [hz], by simp, by omega, hw3, row3, by omega, by omega⟩
      · simp [L34_1, seqL1, t1, l3, hs, hs', t5, l2, hlt]
        exact hE _ _ m _ x (by simp [t4]) row (by
              have hno : ¬ (m : Int) < wayN S := by rw [← wl]; exact hlt
              omega) hm200
    · have hs' : S.step < 0 := by omega
      have wl := wl2 hs'
      have wn := wn2 hs'
      by_cases hlt : S.hi < i
      · have hmlt := wl.1 hlt
        by_cases hov : 200 < mN
        · have hovI : (200 : Int) < (mN : Int) := by omega
          simp [L34_1, L34r, seqL1, seqR1, blkC1, t1, l3, hs, hs', t5, l2, hlt, t4, hz2, ap, hov, hovI]
          exact hR _ _ (by simp) (by simp) row3.on (by omega)
        · have hovI : ¬ (200 : Int) < (mN : Int) := by omega
          simp [L34_1, L34r, seqL1, seqR1, blkC1, t1, l3, hs, hs', t5, l2, hlt, t4, hz2, ap, hov, hovI]
          by_cases hwi : i < w
          · simp [L34s, L34r, L34_1, seqR1, blkC1, t1, t5, l33, hs, hs', hw1, hwi]
            exact hE _ _ mN _ z (by simp [hz]) row3 (by
              have hno : ¬ (mN : Int) < wayN S := by rw [← wn]; omega
              omega) (by omega)
          · simp [L34s, L34r, L34_1, seqR1, blkC1, t1, t5, l33, hs, hs', hw1, hwi]
            exact ⟨k - 1, by omega, mN, _, z, w, by omega, by simp [t1], by simp [hz], by simp, by omega, hw3, row3, by omega, by omega⟩
      · simp [L34_1, seqL1, t1, l3, hs, hs', t5, l2, hlt]
        exact hE _ _ m _ x (by simp [t4]) row (by
              have hno : ¬ (m : Int) < wayN S := by rw [← wl]; exact hlt
              omega) hm200
theorem pipe_loop {G : Heap} (wG : G.WF) (S : Shp) {p it sg : Nat} (vr : Vr G p 47 6 (shpC S)) (hit : S.items = (it : Int)) (hsg : S.stages = (sg : Int)) (h1 : 1 ≤ sg) (h6 : sg ≤ 6) (hit64 : it ≤ 9223372036854775807) {Q : Post} {t : Tm} (t1 : t 1 = ptr p) (t4 : t 4 = .slice none 0 0) (t7 : t 7 = iv 0)
    (hE : ∀ (tt : Tm) H' cells x, tt 4 = x → Row G H' 104 2 (it * sg) cells x → it * sg ≤ 200 → Q (.exit 2) tt (rdy H'))
    (hR : ∀ (tt : Tm) H', tt 2 = .slice none 0 0 → tt 3 = iv 151 → On G H' → 200 < it * sg → Q .ret tt (rdy H')) : wpN Try.prog (.loop L34_3) Q t (rdy G) := by
  have ld : ∀ {H1 : Heap}, On G H1 → H1.load ⟨p, 4, none⟩ = some (iv it) ∧ H1.load ⟨p, 5, none⟩ = some (iv sg) := by
    intro H1 o
    have v := vr.on wG o
    rw [← hit, ← hsg]
    exact ⟨v.load 4, v.load 5⟩
  refine loopN_at (InvA3 G p it sg) it ?_ ?_
  · exact ⟨0, [], .slice none 0 0, by omega, t1, t4, t7, by rw [Nat.zero_mul]; exact Row.nil wG _ _, by omega⟩
  · rintro k t H1 ⟨i, cells, x, hk, t1, t4, t7, row, h200⟩
    obtain ⟨l4, _⟩ := ld row.on
    cases k with
    | zero =>
      have ei : i = it := by omega
      subst ei
      have e1 : ¬ ((i : Int) < (i : Int)) := by omega
      simp [L34_3, t1, l4, t7]
      exact hE _ _ _ x (by simp [t4]) row h200
    | succ k =>
      have e1 : ((i : Int) < (it : Int)) := by omega
      have e1' : i < it := by omega
      have e4 : IntKind.i64.wrap ((i : Int) + 1) = ((i + 1 : Nat) : Int) := by rw [w64 _ (by omega)]; omega
      obtain ⟨iN, hiN⟩ : ∃ m : Nat, m = i + 1 := ⟨_, rfl⟩
      rw [← hiN] at e4
      have hiN2 : iN * sg = i * sg + sg := by rw [hiN, Nat.add_mul, Nat.one_mul]
      have hmono : iN * sg ≤ it * sg := Nat.mul_le_mul_right _ (by omega)
      simp [L34_3, t1, l4, t7, e1, e1']
      refine loopN_at (InvA2 G p i sg) sg ?_ ?_
      · exact ⟨0, cells, x, by omega, by simp [t1], by simp [t4], by simp [t7], by simp, row⟩
      · rintro k2 tt H2 ⟨j, cells2, x2, hjk, u1, u4, u7, u8, row2⟩
        obtain ⟨_, l5⟩ := ld row2.on
        cases k2 with
        | zero =>
          have ej : j = sg := by omega
          subst ej
          obtain ⟨ax, hx⟩ := row2.own.len
          rw [← hiN2] at row2 hx
          by_cases hov : 200 < iN * j
          · have hovI : (200 : Int) < ((iN * j : Nat) : Int) := by omega
            obtain ⟨w, hw⟩ : ∃ w, w = iN * j := ⟨_, rfl⟩
            rw [← hw] at hov hovI hx hmono
            rw [hx] at u4
            simp [L34_2, u1, l5, u8, u4, hov, hovI]
            exact hR _ _ (by simp) (by simp) row2.on (by omega)
          · have hovI : ¬ (200 : Int) < ((iN * j : Nat) : Int) := by omega
            have hx' := hx
            obtain ⟨w, hw⟩ : ∃ w, w = iN * j := ⟨_, rfl⟩
            rw [← hw] at hov hovI hx
            have u4' := u4
            rw [hx] at u4
            simp [L34_2, u1, l5, u8, u4, hov, hovI, u7, e4]
            exact ⟨k, by omega, iN, cells2, x2, by omega, by simp [u1], by simp [u4, hx], by simp, row2, by omega⟩
        | succ k2 =>
          have c1 : ((j : Int) < (sg : Int)) := by omega
          have c1' : j < sg := by omega
          have e5 : IntKind.i64.wrap ((j : Int) + 1) = ((j + 1 : Nat) : Int) := by rw [w64 _ (by omega)]; omega
          obtain ⟨jN, hjN⟩ : ∃ m : Nat, m = j + 1 := ⟨_, rfl⟩
          rw [← hjN] at e5
          obtain ⟨z, H3, ap, row3⟩ := row_push 16 row2 (e := [iv i, iv j]) rfl (by decide) (by omega)
          have hz2 : zerosA [iv 0, iv 0] 2 = [iv 0, iv 0] := rfl
          rw [show i * sg + j + 1 = i * sg + jN by omega] at row3
          simp [L34_2, u1, l5, u8, c1, c1', u4, u7, hz2, ap, e5]
          exact ⟨k2, by omega, jN, _, z, by omega, by simp [u1], by simp, by simp [u7], by simp, row3⟩
theorem tasks_N {H : Heap} (hw : H.WF) (S : Shp) (ok : ShpOk S) : TN Try.prog 34 [.agg (shpC S).toArray] H (TasksQ H S) := by
  refine N_by hm light34 ?_
  have vr : Vr (H.new 47 6 (shpC S)) H.next 47 6 (shpC S) := Vr.mk' hw _ _ _
  have on : On H (H.new 47 6 (shpC S)) := (On.refl hw).new _ _ _
  obtain ⟨G, hG⟩ : ∃ G, G = H.new 47 6 (shpC S) := ⟨_, rfl⟩
  rw [← hG] at vr on
  obtain ⟨p, hp⟩ : ∃ p, p = H.next := ⟨_, rfl⟩
  rw [← hp] at vr
  have onG := On.refl on.wf
  have l0 : G.load ⟨p, 0, none⟩ = some (iv S.kind) := vr.load 0
  have l1 : G.load ⟨p, 1, none⟩ = some (iv S.lo) := vr.load 1
  have l2 : G.load ⟨p, 2, none⟩ = some (iv S.hi) := vr.load 2
  have l3 : G.load ⟨p, 3, none⟩ = some (iv S.step) := vr.load 3
  have l4 : G.load ⟨p, 4, none⟩ = some (iv S.items) := vr.load 4
  have l5 : G.load ⟨p, 5, none⟩ = some (iv S.stages) := vr.load 5
  have fromG : ∀ {H1 : Heap} {n : Nat} {cells : List Value} {x : Value}, Row G H1 104 2 n cells x → Row H H1 104 2 n cells x := fun r => ⟨r.own, on.trans r.on, fun b hb => by have := r.new b hb; have := on.next; omega⟩
  have nil : ∀ {H1 : Heap} (e : Int), cntP S = (0, e) → On G H1 → TasksQ H S (.ret (.tuple #[.slice none 0 0, iv e])) H1 := fun e he o => ⟨_, 0, [], by rw [he], ⟨Own.nil _ _ _, on.trans o, fun b hb => by cases hb⟩, by rw [he]; rfl⟩
  by_cases k1 : S.kind = 1
  · rw [k1] at l0
    have ne2 : ¬ (S.kind = 2 ∧ S.lo = 0 ∧ S.hi = 0 ∧ S.step = 0 ∧ 0 ≤ S.items ∧ 1 ≤ S.stages ∧ S.stages ≤ 6) := fun h => by omega
    by_cases h4 : S.items = 0
    · rw [h4] at l4
      by_cases h5 : S.stages = 0
      · rw [h5] at l5
        have hC : cntP S = if S.step = 0 then (0, 150) else if 200 < wayN S then (0, 151) else (wayN S, 0) := by unfold cntP; rw [if_pos ⟨k1, h4, h5⟩]
        by_cases h0 : S.step = 0
        · rw [if_pos h0] at hC
          rw [h0] at l3
          simp [L34, ← hG, ← hp, l0, l4, l5, l3]
          exact nil 150 hC onG
        · rw [if_neg h0] at hC
          have h0b : (S.step == 0) = false := by simpa using h0
          simp [L34, ← hG, ← hp, l0, l4, l5, l3, h0b, h0, l1]
          refine way_loop on.wf S ok vr h0 (by simp [hp]) (by simp) (by simp) ?_ ?_
          · intro tt H' m cells x u4 row hmw hm200
            obtain ⟨ax, hx⟩ := row.own.len
            have hnt : notTup x = true := by rw [hx]; rfl
            have hC2 : cntP S = (wayN S, 0) := by rw [hC, if_neg (by omega)]
            simp [u4, hnt]
            exact ⟨x, m, cells, by rw [hC2], fromG row, by rw [hC2, hmw]⟩
          · intro tt H' u2 u3 o hbig
            simp [u2, u3]
            exact nil 151 (by rw [hC, if_pos hbig]) o
      · have hC : cntP S = (0, 152) := by unfold cntP; rw [if_neg (fun h => h5 h.2.2), if_neg ne2]
        have h5b : (S.stages == 0) = false := by simpa using h5
        simp [L34, ← hG, ← hp, l0, l4, l5, h5b, h5]
        exact nil 152 hC onG
    · have hC : cntP S = (0, 152) := by unfold cntP; rw [if_neg (fun h => h4 h.2.1), if_neg ne2]
      have h4b : (S.items == 0) = false := by simpa using h4
      simp [L34, ← hG, ← hp, l0, l4, h4b, h4]
      exact nil 152 hC onG
  · have hn : ¬ (S.kind = 1 ∧ S.items = 0 ∧ S.stages = 0) := fun h => k1 h.1
    have k1b : (S.kind == 1) = false := by simpa using k1
    have bad : ¬ (S.kind = 2 ∧ S.lo = 0 ∧ S.hi = 0 ∧ S.step = 0 ∧ 0 ≤ S.items ∧ 1 ≤ S.stages ∧ S.stages ≤ 6) → TasksQ H S (.ret (.tuple #[.slice none 0 0, iv 152])) G := fun h => nil 152 (by unfold cntP; rw [if_neg hn, if_neg h]) onG
    by_cases k2 : S.kind = 2
    · rw [k2] at l0
      by_cases h1 : S.lo = 0
      · rw [h1] at l1
        by_cases h2 : S.hi = 0
        · rw [h2] at l2
          by_cases h3 : S.step = 0
          · rw [h3] at l3
            by_cases h4 : 0 ≤ S.items
            · by_cases h5 : 1 ≤ S.stages
              · by_cases h6 : S.stages ≤ 6
                · obtain ⟨it, hit⟩ : ∃ it : Nat, it = S.items.toNat := ⟨_, rfl⟩
                  obtain ⟨sg, hsg⟩ : ∃ sg : Nat, sg = S.stages.toNat := ⟨_, rfl⟩
                  have hit' : S.items = (it : Int) := by omega
                  have hsg' : S.stages = (sg : Int) := by omega
                  have oi := ok.items
                  unfold okW at oi
                  have hprod : S.items * S.stages = ((it * sg : Nat) : Int) := by rw [hit', hsg', Int.natCast_mul]
                  have hC : cntP S = if 200 < ((it * sg : Nat) : Int) then (0, 151) else (((it * sg : Nat) : Int), 0) := by
                    unfold cntP; rw [if_neg hn, if_pos ⟨k2, h1, h2, h3, h4, h5, h6⟩, hprod]
                  simp [L34, ← hG, ← hp, l0, l1, l2, l3, l4, l5, h4, h5, h6]
                  refine pipe_loop on.wf S vr hit' hsg' (by omega) (by omega) (by omega) (by simp [hp]) (by simp) (by simp) ?_ ?_
                  · intro tt H' cells x u4 row h200
                    obtain ⟨ax, hx⟩ := row.own.len
                    have hnt : notTup x = true := by rw [hx]; rfl
                    have hC2 : cntP S = (((it * sg : Nat) : Int), 0) := by rw [hC, if_neg (by omega)]
                    simp [u4, hnt]
                    exact ⟨x, it * sg, cells, by rw [hC2], fromG row, by rw [hC2]⟩
                  · intro tt H' u2 u3 o hbig
                    simp [u2, u3]
                    exact nil 151 (by rw [hC, if_pos (by omega)]) o
                · simp [L34, ← hG, ← hp, l0, l1, l2, l3, l4, l5, h4, h5, h6]
                  exact bad (fun g => by omega)
              · simp [L34, ← hG, ← hp, l0, l1, l2, l3, l4, l5, h4, h5]
                exact bad (fun g => by omega)
            · simp [L34, ← hG, ← hp, l0, l1, l2, l3, l4, h4]
              exact bad (fun g => by omega)
          · have h3b : (S.step == 0) = false := by simpa using h3
            simp [L34, ← hG, ← hp, l0, l1, l2, l3, h3b, h3]
            exact bad (fun g => by omega)
        · have h2b : (S.hi == 0) = false := by simpa using h2
          simp [L34, ← hG, ← hp, l0, l1, l2, h2b, h2]
          exact bad (fun g => by omega)
      · have h1b : (S.lo == 0) = false := by simpa using h1
        simp [L34, ← hG, ← hp, l0, l1, h1b, h1]
        exact bad (fun g => by omega)
    · have k2b : (S.kind == 2) = false := by simpa using k2
      simp [L34, ← hG, ← hp, l0, k1b, k1, k2b, k2]
      exact bad (fun g => by omega)
end Go.Proofs.Ytmdlfenileiaeaa
