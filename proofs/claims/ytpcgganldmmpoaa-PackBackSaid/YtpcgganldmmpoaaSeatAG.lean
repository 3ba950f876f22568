/-
  Both readers: lists of numbers; two lists compared.
-/
import Derived.Test.YtpcgganldmmpoaaSeatAF
namespace Go.Proofs.Ytpcgganldmmpoaa
open Go.Ot
set_option linter.unusedSimpArgs false
set_option linter.unusedVariables false
abbrev iz (n : Int) : Value := .int .i64 n
def intsN : Nat → List Nat → Nat → List Int × List Nat × Nat
  | 0, l, f => ([], l, f)
  | n + 1, l, f => ((iS l f).1 :: (intsN n (iS l f).2.1 (iS l f).2.2).1, (intsN n (iS l f).2.1 (iS l f).2.2).2)
theorem iS_fail (l : List Nat) {f : Nat} (h : f ≠ 0) : iS l f = (0, l, f) := by
  unfold iS uS
  rw [if_pos h]
  simp [unzz]
theorem intsN_fail : ∀ (n : Nat) (l : List Nat) {f : Nat}, f ≠ 0 → (intsN n l f).2 = (l, f)
  | 0, l, f, h => rfl
  | n + 1, l, f, h => by simp only [intsN]; rw [iS_fail l h]; exact intsN_fail n l h
def intsS (l : List Nat) (fail : Nat) : List Int × List Nat × Nat :=
  if (intsN (countS l fail 1).1 (countS l fail 1).2.1 (countS l fail 1).2.2).2.2 ≠ 0 then ([], (intsN (countS l fail 1).1 (countS l fail 1).2.1 (countS l fail 1).2.2).2) else intsN (countS l fail 1).1 (countS l fail 1).2.1 (countS l fail 1).2.2
theorem iS_suf (l : List Nat) (f : Nat) : (iS l f).2.1 <:+ l := uS_suf l f
theorem intsN_suf : ∀ (n : Nat) (l : List Nat) (f : Nat), (intsN n l f).2.1 <:+ l
  | 0, l, f => List.suffix_refl _
  | n + 1, l, f => (intsN_suf n _ _).trans (iS_suf l f)
theorem intsS_suf (l : List Nat) (f : Nat) : (intsS l f).2.1 <:+ l := by
  unfold intsS; split <;> exact (intsN_suf _ _ _).trans (countS_suf l f 1)
/-- The count is no more than the bytes, or there is an error and it is 0. -/
theorem countS_small (l : List Nat) (fail : Nat) (least : Int) : (countS l fail least).1 ≤ l.length := by
  by_cases h : (countS l fail least).2.2 = 0
  · exact Nat.le_trans (countS_le l fail least h) (countS_suf l fail least).length_le
  · have : (countS l fail least).1 = 0 := by
      unfold countS at h ⊢
      split
      · rfl
      · rename_i h1
        rw [if_neg h1] at h
        exact uS_fail l fail h
    omega
/-- A reader, and a row of numbers that grows beside. -/
structure RI (H H1 : Heap) (p : Nat) (x : Value) (b l : List Nat) (f : Nat) (acc : List Int) (y : Value) : Prop where
  rs : RS H1 p x b l f
  own : Own H1 2 1 acc.length (acc.map iz) y
  yn : ∀ b, blkOf y = some b → H.next ≤ b
  wf : H1.WF
  base : H1.base = H.base
  next : H.next ≤ H1.next
  same : Same H H1 [p]
theorem RI.take {H H1 : Heap} {p : Nat} {x : Value} {b l : List Nat} {f : Nat} {acc : List Int} {y : Value} (h : RI H H1 p x b l f acc y) (hp : p < H.next) {l2 : List Nat} (f2 : Nat) (hs : l2 <:+ l) : RI H (H1.put p (rsC x b l2 f2)) p x b l2 f2 acc y :=
  ⟨h.rs.step f2 hs, h.own.keep (by simp) (fun b hb => by have := h.yn b hb; simp [show b ≠ p by omega]), h.yn, WF_put h.wf _ _, by simpa using h.base, by simpa using h.next,
   fun b hb hn => by have : b ≠ p := by simpa using hn
                     simp [this, h.same b hb hn]⟩
theorem RI.push {H H1 HA : Heap} {p : Nat} {x : Value} {b l : List Nat} {f : Nat} {acc : List Int} {y y' : Value} (h : RI H H1 p x b l f acc y) (hp : p < H.next) (hxl : ∀ b, blkOf x = some b → b < H.next) (z : Int)
    (og : Og H1 HA 2 y (acc.length + 1) (acc.map iz ++ [iz z]) y') : RI H HA p x b l f (acc ++ [z]) y' := by
  have hne : ∀ b, b < H.next → blkOf y ≠ some b := fun b hb e => by have := h.yn b e; omega
  refine ⟨h.rs.frame og.base (og.same p (Nat.lt_of_lt_of_le hp h.next) (hne p hp)) (fun c hc => og.same c (Nat.lt_of_lt_of_le (hxl c hc) h.next) (hne c (hxl c hc))), ?_, ?_, og.wf, og.base.trans h.base, Nat.le_trans h.next og.next, ?_⟩
  · simpa using og.own
  · intro b hb
    rcases og.old b hb with h1 | h1
    · exact h.yn b h1
    · exact Nat.le_trans h.next h1
  · intro b hb hn
    rw [og.same b (Nat.lt_of_lt_of_le hb h.next) (hne b hb)]
    exact h.same b hb hn
def InvIN (H : Heap) (p : Nat) (x : Value) (b : List Nat) (n : Nat) (want : List Int × List Nat × Nat) (k : Nat) (t : Tm) (H1 : Heap) : Prop :=
  ∃ (i : Nat) (acc : List Int) (l : List Nat) (f : Nat) (y : Value), i + k = n ∧ acc.length = i ∧ t 0 = ptr p ∧ t 4 = y ∧ t 7 = iz n ∧ t 8 = iz i ∧ RI H H1 p x b l f acc y ∧ want = (acc ++ (intsN k l f).1, (intsN k l f).2)
theorem rints_T {H : Heap} (hw : H.WF) {p : Nat} {x : Value} {b l : List Nat} {fail : Nat} (h : RS H p x b l fail) (hxl : ∀ b, blkOf x = some b → b < H.next) (hb : l.length ≤ 1000000) :
    ∃ v H', T Try.prog 37 [ptr p] H v H' ∧ RS H' p x b (intsS l fail).2.1 (intsS l fail).2.2 ∧ Ints H' .i64 v (intsS l fail).1 ∧ Same H H' [p] := by
  refine T_by hm light37 ?_
  have hp := hw.lt h.rd.bp
  have T1 := rcount_T h 1 (by unfold okI2; omega)
  have hcs := countS_suf l fail 1
  have hsm := countS_small l fail 1
  unfold intsS
  obtain ⟨n, hn⟩ : ∃ n, n = (countS l fail 1).1 := ⟨_, rfl⟩
  obtain ⟨l2, hl2⟩ : ∃ l2, l2 = (countS l fail 1).2.1 := ⟨_, rfl⟩
  obtain ⟨f, hf⟩ : ∃ f, f = (countS l fail 1).2.2 := ⟨_, rfl⟩
  have hup : countS l fail 1 = (n, l2, f) := by rw [hn, hl2, hf]
  rw [hup] at T1 hcs hsm ⊢
  simp only at T1 hcs hsm ⊢
  obtain ⟨want, hwant⟩ : ∃ want, want = intsN n l2 f := ⟨_, rfl⟩
  rw [← hwant]
  obtain ⟨r, hr⟩ : ∃ r, r = (if want.2.2 ≠ 0 then ([], want.2) else want) := ⟨_, rfl⟩
  rw [← hr]
  have R1 : RI H (H.put p (rsC x b l2 f)) p x b l2 f [] (.slice none 0 0) :=
    (RI.mk (acc := []) h (Own.nil H 2 1) (by simp) hw rfl (Nat.le_refl _) (Same.refl _ _)).take hp f hcs
  obtain ⟨G, hG⟩ : ∃ G, G = H.put p (rsC x b l2 f) := ⟨_, rfl⟩
  rw [← hG] at T1 R1
  simp [L37]
  refine goT_of T1 ?_
  simp
  refine loop_at (InvIN H p x b n want) n ?_ ?_
  · exact ⟨0, [], l2, f, _, by omega, rfl, by simp, by simp, by simp, by simp, R1, by simp [hwant]⟩
  · rintro k t G1 ⟨i, acc, l3, f3, y, hik, hacc, t0, t4, t7, t8, R, hw3⟩
    cases k with
    | zero =>
      have ei : i = n := by omega
      subst ei
      have ld := fun off => load_at (off := off) R.rs.rd.hp R.rs.rd.bp
      simp only [intsN, List.append_nil] at hw3
      subst hw3
      simp only at hr
      obtain ⟨ya, hya⟩ := R.own.len
      by_cases hf3 : f3 = 0
      · subst hf3
        rw [if_neg (by simp : ¬ (0 : Nat) ≠ 0)] at hr
        subst hr
        simp [L37_1, t0, t4, t7, t8, ld]
        refine ⟨by rw [hya]; rfl, R.rs, Own.ints R.own, R.same⟩
      · rw [if_pos hf3] at hr
        subst hr
        simp [L37_1, t0, t4, t7, t8, ld, hf3]
        exact ⟨R.rs, .inl ⟨rfl, rfl⟩, R.same⟩
    | succ k =>
      have hi : i < n := by omega
      have e4 : IntKind.i64.wrap ((i : Int) + 1) = ((i + 1 : Nat) : Int) := by rw [w64 _ (by omega)]; omega
      obtain ⟨i1, hi1⟩ : ∃ i1, i1 = i + 1 := ⟨_, rfl⟩
      rw [← hi1] at e4
      have T2 := rint_T R.rs
      have R2 := R.take hp (iS l3 f3).2.2 (iS_suf l3 f3)
      simp only [intsN] at hw3
      obtain ⟨z, hz⟩ : ∃ z, z = (iS l3 f3).1 := ⟨_, rfl⟩
      rw [← hz] at T2 hw3
      obtain ⟨HA, ap, og⟩ := Og.push R2.wf R2.own (iz z) (bytes := 8) (c := 0) (by omega)
      have R3 := R2.push hp hxl z og
      obtain ⟨G2, hG2⟩ : ∃ G2, G2 = G1.put p (rsC x b (iS l3 f3).2.1 (iS l3 f3).2.2) := ⟨_, rfl⟩
      rw [← hG2] at T2 ap
      simp [L37_1, t0, t4, t7, t8, hi]
      refine goT_of T2 ?_
      simp [t4, t8, e4, zerosA, ap]
      exact ⟨k, Nat.lt_succ_self k, i1, acc ++ [z], _, _, _, by omega, by simp [hacc, hi1], by simp [t0], by simp [hG2], by simp [t7], by simp, R3, by rw [hw3]; simp⟩
/-- Two variables and a row of numbers that grows beside. -/
structure DI (H0 H G : Heap) (l : List Nat) (f : Nat) (acc : List Int) (xr c d y : Value) : Prop where
  X : Xt H G
  v : Two G H.next xr (.int .i64 (f : Int))
  r : Two G (H.next + 1) c d
  own : Own G 2 1 acc.length (acc.map iz) y
  yn : ∀ b, blkOf y = some b → H.next + 2 ≤ b
  bs : Bs H0 xr l
theorem DI.push {H0 H G HA : Heap} {l : List Nat} {f : Nat} {acc : List Int} {xr c d y y' : Value} (h : DI H0 H G l f acc xr c d y) (z : Int) (og : Og G HA 2 y (acc.length + 1) (acc.map iz ++ [iz z]) y') : DI H0 H HA l f (acc ++ [z]) xr c d y' := by
  have hne : ∀ b, b < H.next + 2 → blkOf y ≠ some b := fun b hb e => by have := h.yn b e; omega
  have h1 := h.X.wf.lt h.v.bp
  have h2 := h.X.wf.lt h.r.bp
  refine ⟨⟨og.base.trans h.X.base, Nat.le_trans h.X.next og.next, h.X.wf0, og.wf, fun b hb => (og.same b (Nat.lt_of_lt_of_le hb h.X.next) (hne b (by omega))).trans (h.X.old b hb)⟩,
    h.v.keep og.base (og.same _ h1 (hne _ (by omega))), h.r.keep og.base (og.same _ h2 (hne _ (by omega))), by simpa using og.own, fun b hb => ?_, h.bs⟩
  rcases og.old b hb with h3 | h3
  · exact h.yn b h3
  · omega
def InvDI (H0 H : Heap) (n : Nat) (want : List Int × List Nat × Nat) (k : Nat) (t : Tm) (G : Heap) : Prop :=
  ∃ (i : Nat) (acc : List Int) (l : List Nat) (f : Nat) (xr c d y : Value), i + k = n ∧ acc.length = i ∧ t 1 = ptr H.next ∧ t 2 = ptr (H.next + 1) ∧ t 4 = iz n ∧ t 5 = y ∧ t 6 = iz i ∧ DI H0 H G l f acc xr c d y ∧ (∀ c ∈ l, c < 256) ∧ want = (acc ++ (intsN k l f).1, (intsN k l f).2)
theorem intsR2_T {H0 H : Heap} (hX : Xt H0 H) {xr : Value} {l : List Nat} (hx0 : Bs H0 xr l) (hlt : ∀ c ∈ l, c < 256) (hlen : l.length ≤ 1000000) (fail : Nat) :
    ∃ v H', T Try.prog 53 [dR xr fail] H v H' ∧ ∃ xr' y, v = .tuple #[dR xr' (intsS l fail).2.2, y] ∧ Bs H0 xr' (intsS l fail).2.1 ∧ Ints H' .i64 y (intsS l fail).1 ∧ (∀ b, blkOf y = some b → H.next ≤ b) ∧ Same H H' [] := by
  refine T_by hm light53 ?_
  obtain ⟨H2, hN, X2, v2, r2⟩ := setR hX.wf xr (.int .i64 (fail : Int))
  have la2 := v2.loadA
  obtain ⟨v3, H3, T3, xr', rfl, b', s3⟩ := countR2_T (hX.trans X2) hx0 hlt (by omega) fail 1 (by unfold okI2; omega)
  have hcs := countS_suf l fail 1
  have hsm := countS_small l fail 1
  unfold intsS
  obtain ⟨n, hn⟩ : ∃ n, n = (countS l fail 1).1 := ⟨_, rfl⟩
  obtain ⟨l2, hl2⟩ : ∃ l2, l2 = (countS l fail 1).2.1 := ⟨_, rfl⟩
  obtain ⟨f, hf⟩ : ∃ f, f = (countS l fail 1).2.2 := ⟨_, rfl⟩
  have hup : countS l fail 1 = (n, l2, f) := by rw [hn, hl2, hf]
  rw [hup] at T3 b' hcs hsm ⊢
  simp only at T3 b' hcs hsm ⊢
  obtain ⟨want, hwant⟩ : ∃ want, want = intsN n l2 f := ⟨_, rfl⟩
  rw [← hwant]
  obtain ⟨r, hr⟩ : ∃ r, r = (if want.2.2 ≠ 0 then ([], want.2) else want) := ⟨_, rfl⟩
  rw [← hr]
  simp only [dR] at T3 ⊢
  obtain ⟨H4, sa, X4, v4, r4⟩ := aftR X2 v2 r2 T3 s3 xr' (.int .i64 (f : Int))
  have D4 : DI H0 H H4 l2 f [] xr' (.slice none 0 0) (.int .i64 0) (.slice none 0 0) := ⟨X4, v4, r4, Own.nil H4 2 1, by simp, b'⟩
  have hlt2 : ∀ c ∈ l2, c < 256 := fun c hc => hlt c (hcs.mem hc)
  simp [L53, hN, la2]
  refine goT_of T3 ?_
  simp [sa]
  refine loop_at (InvDI H0 H n want) n ?_ ?_
  · exact ⟨0, [], l2, f, xr', _, _, _, by omega, rfl, by simp, by simp, by simp, by simp, by simp, D4, hlt2, by simp [hwant]⟩
  · rintro k t G ⟨i, acc, l3, f3, x3, c3, d3, y, hik, hacc, t1, t2, t4, t5, t6, D, hlt3, hw3⟩
    have ldG := D.v.load
    have laG := D.v.loadA
    -- the end: what there is is given back
    have fin : i = n ∨ f3 ≠ 0 → ∃ G' yy, (f3 ≠ 0 → yy = .slice none 0 0) ∧ (f3 = 0 → yy = y) ∧ r = ((if f3 = 0 then acc else []), l3, f3) ∧ sStore G 2 (ptr (H.next + 1)) (.agg #[x3, .int .i64 (f3 : Int)]) = some G' ∧ G'.loadN ⟨H.next + 1, 0, none⟩ 0 2 = some [x3, .int .i64 (f3 : Int)] ∧ Same H G' [] ∧ Ints G' .i64 yy (if f3 = 0 then acc else []) ∧ notTup yy = true ∧ (∀ b, blkOf yy = some b → H.next ≤ b) := by
      intro h
      obtain ⟨G', la, sb, lb, sm⟩ := finR D.X D.v D.r
      have hG' : G' = G.put (H.next + 1) [x3, .int .i64 (f3 : Int)] := by
        have := D.r.storeA x3 (.int .i64 (f3 : Int))
        rw [this] at sb
        exact (Option.some.inj sb).symm
      by_cases hf3 : f3 = 0
      · have hin : i = n := by rcases h with h | h
                               · exact h
                               · exact absurd hf3 h
        have k0 : k = 0 := by omega
        subst k0
        simp only [intsN, List.append_nil] at hw3
        rw [hw3] at hr
        simp only [hf3] at hr
        rw [if_neg (by simp : ¬ (0 : Nat) ≠ 0)] at hr
        obtain ⟨ya, hya⟩ := D.own.len
        refine ⟨G', y, fun h => absurd hf3 h, fun _ => rfl, by rw [hr, if_pos hf3, hf3], sb, lb, sm, ?_, by rw [hya]; rfl, fun b hb => by have := D.yn b hb; omega⟩
        rw [if_pos hf3]
        refine Own.ints (D.own.keep (by rw [hG']; simp) (fun b hb => ?_))
        have := D.yn b hb
        rw [hG']
        simp [show b ≠ H.next + 1 by omega]
      · have e := intsN_fail k l3 hf3
        rw [hw3, e] at hr
        rw [if_pos hf3] at hr
        refine ⟨G', .slice none 0 0, fun _ => rfl, fun h => absurd h hf3, by rw [hr, if_neg hf3], sb, lb, sm, ?_, rfl, fun b hb => by cases hb⟩
        rw [if_neg hf3]
        exact .inl ⟨rfl, rfl⟩
    by_cases hin : i = n
    · obtain ⟨G', yy, hy1, hy0, hr', sb, lb, sm, iy, nt, yn⟩ := fin (.inl hin)
      subst hr'
      by_cases hf3 : f3 = 0
      · have hy := hy0 hf3
        subst hf3
        subst hy
        rw [if_pos rfl] at iy ⊢
        have la' : G.loadN ⟨H.next, 0, none⟩ 0 2 = some [x3, .int .i64 0] := laG
        have sb' : sStore G 2 (ptr (H.next + 1)) (.agg #[x3, .int .i64 0]) = some G' := sb
        have lb' : G'.loadN ⟨H.next + 1, 0, none⟩ 0 2 = some [x3, .int .i64 0] := lb
        simp [L53_1, t1, t2, t4, t5, t6, hin, ldG, la', sb', lb', nt]
        exact ⟨_, _, ⟨rfl, rfl⟩, D.bs, iy, yn, sm⟩
      · have hy := hy1 hf3
        subst hy
        rw [if_neg hf3] at iy ⊢
        simp [L53_1, t1, t2, t4, t5, t6, hin, ldG, hf3, laG, sb, lb]
        exact ⟨_, _, ⟨rfl, rfl⟩, D.bs, iy, yn, sm⟩
    have hi : i < n := by omega
    by_cases hf3 : f3 = 0
    case neg =>
      obtain ⟨G', yy, hy1, hy0, hr', sb, lb, sm, iy, nt, yn⟩ := fin (.inr hf3)
      subst hr'
      have hy := hy1 hf3
      subst hy
      rw [if_neg hf3] at iy ⊢
      simp [L53_1, t1, t2, t4, t5, t6, hi, ldG, hf3, laG, sb, lb]
      exact ⟨_, _, ⟨rfl, rfl⟩, D.bs, iy, yn, sm⟩
    subst hf3
    cases k with
    | zero => omega
    | succ k =>
      have e4 : IntKind.i64.wrap ((i : Int) + 1) = ((i + 1 : Nat) : Int) := by rw [w64 _ (by omega)]; omega
      obtain ⟨i1, hi1⟩ : ∃ i1, i1 = i + 1 := ⟨_, rfl⟩
      rw [← hi1] at e4
      obtain ⟨v5, H5, T5, x5, rfl, b5, s5⟩ := intR2_T (hX.trans D.X) D.bs hlt3 0
      simp only [dR] at T5
      obtain ⟨H6, sa6, X6, v6, r6⟩ := aftR D.X D.v D.r T5 s5 x5 (.int .i64 ((iS l3 0).2.2 : Int))
      have la' : G.loadN ⟨H.next, 0, none⟩ 0 2 = some [x3, .int .i64 0] := laG
      have hH6 : H6 = H5.put H.next [x5, .int .i64 ((iS l3 0).2.2 : Int)] := by
        have v3' : Two H5 H.next x3 (.int .i64 0) := D.v.keep T5.1 (s5 _ (D.X.wf.lt D.v.bp) (by simp))
        have := v3'.storeA x5 (.int .i64 ((iS l3 0).2.2 : Int))
        rw [this] at sa6
        exact (Option.some.inj sa6).symm
      have D6 : DI H0 H H6 (iS l3 0).2.1 (iS l3 0).2.2 acc x5 c3 d3 y := ⟨X6, v6, r6, D.own.keep (by rw [hH6]; simp [T5.B]) (fun b hb => by
        have := D.yn b hb
        rw [hH6]
        simp [show b ≠ H.next by omega]
        exact s5 b (D.own.lt D.X.wf hb) (by simp)), D.yn, b5⟩
      simp only [intsN] at hw3
      have hsuf := iS_suf l3 0
      obtain ⟨z, hz⟩ : ∃ z, z = (iS l3 0).1 := ⟨_, rfl⟩
      rw [← hz] at T5 hw3
      obtain ⟨HA, ap, og⟩ := Og.push X6.wf D6.own (iz z) (bytes := 8) (c := 0) (by omega)
      have D7 := D6.push z og
      simp [L53_1, t1, t2, t4, t5, t6, hi, ldG, la']
      refine goT_of T5 ?_
      simp [t1, t5, t6, sa6, e4, zerosA, ap]
      exact ⟨k, Nat.lt_succ_self k, i1, acc ++ [z], _, _, _, _, _, _, by omega, by simp [hacc, hi1], by simp [t1], by simp [t2], by simp [t4], by simp, by simp, D7, fun c hc => hlt3 c (hsuf.mem hc), by rw [hw3]; simp⟩
end Go.Proofs.Ytpcgganldmmpoaa
