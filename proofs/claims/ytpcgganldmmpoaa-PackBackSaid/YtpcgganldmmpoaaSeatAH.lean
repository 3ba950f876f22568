/-
  PackTakes: one call of both readers.
-/
import Derived.Test.YtpcgganldmmpoaaSeatAG
namespace Go.Proofs.Ytpcgganldmmpoaa
open Go.Ot
set_option linter.unusedSimpArgs false
set_option linter.unusedVariables false
theorem Bs.slice {H : Heap} {x : Value} {l : List Nat} (h : Bs H x l) : ∃ a n c, x = .slice a n c := by
  obtain ⟨a, c, h⟩ := h.len
  exact ⟨a, _, c, h⟩
/-- A row of bytes is not the reader's own block. -/
theorem Bs.past {H H' : Heap} {p : Nat} {x xr : Value} {b l l0 : List Nat} {f : Nat} (h : Bs H xr l) (hr : RS H p x b l0 f) (hw : H.WF) (hb : H'.base = H.base) (hs : Same H H' [p]) : Bs H' xr l := by
  rcases h with h | ⟨c, off, cc, rfl, h⟩
  · exact .inl h
  · refine .inr ⟨c, off, cc, rfl, fun i hi => ?_⟩
    have h1 := h i hi
    have hlt := load_lt hw h1
    have hne : c ≠ p := by
      intro e
      subst e
      rw [load_at hr.rd.hp hr.rd.bp] at h1
      obtain ⟨a, n, c2, hx⟩ := hr.rd.bs.slice
      rw [hx] at h1
      match off + i, h1 with
      | 0, h1 => simp at h1
      | 1, h1 => simp at h1
      | 2, h1 => simp at h1
      | k + 3, h1 => simp at h1
    rw [load_off hb (hs c hlt (by simpa using hne))]
    exact h1
theorem Same.putp {H : Heap} (p : Nat) (cs : List Value) : Same H (H.put p cs) [p] := fun b _ hn => by
  have : b ≠ p := by simpa using hn
  simp [this]
def InvSm2 (x y : Value) (r : List Int) (H0 : Heap) (k : Nat) (t : Tm) (H1 : Heap) : Prop :=
  ∃ j : Nat, j + k = r.length ∧ t 0 = x ∧ t 1 = y ∧ t 5 = iz j ∧ H1 = H0
theorem same_T {H : Heap} {x y : Value} {r : List Int} (hx : Ints H .i64 x r) (hy : Ints H .i64 y r) (hl : r.length ≤ 1000000) : T Try.prog 36 [x, y] H (.bool true) H := by
  refine T_eq hm light36 ?_
  obtain ⟨a2, c2, hv2⟩ := hx.len
  obtain ⟨a3, c3, hv3⟩ := hy.len
  simp [L36, hv2, hv3]
  rw [← hv2, ← hv3]
  refine loop_at (InvSm2 x y r H) r.length ?_ ?_
  · exact ⟨0, by omega, by simp [hv2], by simp [hv3], by simp, rfl⟩
  · rintro k t H1 ⟨j, hjk, t0, t1, t5, rfl⟩
    cases k with
    | zero =>
      have ej : j = r.length := by omega
      subst ej
      rw [hv2] at t0
      simp [L36_1, t0, t1, t5]
    | succ k =>
      have hj : j < r.length := by omega
      obtain ⟨b, off, c, hx2, ld2⟩ := hx.at hj
      obtain ⟨b', off', c', hx3, ld3⟩ := hy.at hj
      have e4 : IntKind.i64.wrap ((j : Int) + 1) = ((j + 1 : Nat) : Int) := by rw [w64 _ (by omega)]; omega
      obtain ⟨j1, hj1⟩ : ∃ j1, j1 = j + 1 := ⟨_, rfl⟩
      rw [← hj1] at e4
      have t0' := t0
      have t1' := t1
      rw [hx2] at t0'
      rw [hx3] at t1'
      simp [L36_1, t0', t1', t5, hj, ld2, ld3, e4]
      exact ⟨k, Nat.lt_succ_self k, j1, by omega, by simp [t0], by simp [t1], by simp, rfl⟩
def TookQ (H : Heap) (p : Nat) (x : Value) (b l : List Nat) (v : Value) (H' : Heap) : Prop :=
  ∃ xr' l' f', v = .tuple #[dR xr' f', .bool true] ∧ RS H' p x b l' f' ∧ Bs H' xr' l' ∧ l' <:+ l ∧ Same H H' [p]
theorem took_end {H H3 : Heap} {p : Nat} {x xr' c d : Value} {b l l' : List Nat} {f f' : Nat} (hw : H.WF) (rs : RS H p x b l f) (hxl : ∀ b, blkOf x = some b → b < H.next) (X3 : Xt H H3) (r3 : Two H3 (H.next + 1) c d) (hn3 : H.next + 2 ≤ H3.next) (b' : Bs H xr' l') :
    ∃ H4, sStore (H3.new 53 2 [.slice none 0 0, .int .i64 0]) 2 (ptr H3.next) (.agg #[xr', .int .i64 (f' : Int)]) = some H4 ∧ H4.loadN ⟨H3.next, 0, none⟩ 0 2 = some [xr', .int .i64 (f' : Int)] ∧ H4.WF ∧ RS H4 p x b l f ∧ H3.next < H4.next ∧ H4.base = H3.base ∧ (∀ b, b < H3.next → H4.blk b = H3.blk b) ∧
      (∀ {g : FuncId} {args : List Value} {v : Value} {H5 : Heap}, T Try.prog g args H4 v H5 → Same H4 H5 [p] → RS H5 p x b l' f' → ∃ H6, H5.loadN ⟨H3.next, 0, none⟩ 0 2 = some [xr', .int .i64 (f' : Int)] ∧
        sStore H5 2 (ptr (H.next + 1)) (.agg #[xr', .int .i64 (f' : Int)]) = some H6 ∧ H6.loadN ⟨H.next + 1, 0, none⟩ 0 2 = some [xr', .int .i64 (f' : Int)] ∧ RS H6 p x b l' f' ∧ Bs H6 xr' l' ∧ Same H H6 [p]) := by
  have hpn := hw.lt rs.rd.bp
  obtain ⟨H4, hH4⟩ : ∃ H4, H4 = H3.new 53 2 [xr', .int .i64 (f' : Int)] := ⟨_, rfl⟩
  have X4 : Xt H H4 := by rw [hH4]; exact X3.new _ _ _
  have v4 : Two H4 H3.next xr' (.int .i64 (f' : Int)) := by rw [hH4]; exact Two.mk' X3.wf _ _
  have r4 : Two H4 (H.next + 1) c d := by rw [hH4]; exact r3.new X3.wf _ _ _
  have st4 := (Two.mk' X3.wf (.slice none 0 0) (.int .i64 0)).storeA xr' (.int .i64 (f' : Int))
  rw [new_put, ← hH4] at st4
  have rs4 : RS H4 p x b l f := rs.frame X4.base (X4.old p hpn) (fun c hc => X4.old c (hxl c hc))
  have n4 : H4.next = H3.next + 1 := by rw [hH4]; rfl
  refine ⟨H4, st4, v4.loadA, X4.wf, rs4, by omega, by rw [hH4]; rfl, fun b hb => by rw [hH4]; simp [show b ≠ H3.next by omega], ?_⟩
  intro g args v H5 T5 s5 rs5
  have v5 : Two H5 H3.next xr' (.int .i64 (f' : Int)) := v4.keep T5.1 (s5 _ (by omega) (by simp; omega))
  have r5 : Two H5 (H.next + 1) c d := r4.keep T5.1 (s5 _ (by omega) (by simp; omega))
  have b5 : Bs H5 xr' l' := (X4.bs b').past rs4 X4.wf T5.1 s5
  have n5 := T5.grow.next
  have hx1 : blkOf x ≠ some (H.next + 1) := fun e => by have := hxl _ e; omega
  refine ⟨_, v5.loadA, r5.storeA _ _, (r5.put _ _).loadA, rs5.frame (by simp) (by simp [show p ≠ H.next + 1 by omega]) (fun c hc => by have := hxl c hc; simp [show c ≠ H.next + 1 by omega]), ?_, ?_⟩
  · rcases b' with h | ⟨c1, off, cc, rfl, h⟩
    · exact .inl h
    · by_cases h0 : 0 < l'.length
      · have hlt := load_lt hw (h 0 h0)
        exact b5.put _ (fun e => by simp at e; omega)
      · exact .inr ⟨c1, off, cc, rfl, fun i hi => absurd hi (by omega)⟩
  · intro c hc hn
    simp [show c ≠ H.next + 1 by omega]
    rw [s5 c (by omega) hn]
    exact X4.old c hc
theorem took0_T {H : Heap} (hw : H.WF) {p : Nat} {x xr : Value} {b l : List Nat} {f : Nat} (rs : RS H p x b l f) (hxl : ∀ b, blkOf x = some b → b < H.next) (bs : Bs H xr l) (hl : l.length ≤ 1000000) :
    ∃ v H', T Try.prog 28 [ptr p, dR xr f, iz 0] H v H' ∧ TookQ H p x b l v H' := by
  refine T_by hm light28 ?_
  obtain ⟨H2, hN, X2, v2, r2⟩ := setR hw xr (.int .i64 (f : Int))
  have la2 := v2.loadA
  obtain ⟨v3, H3, T3, xr', rfl, b', s3⟩ := uintR2_T X2 bs rs.lt f
  have X3 := X2.call T3 s3
  have n3 := T3.grow.next
  have n2 : H2.next = H.next + 2 := by rw [← hN]; rfl
  have r3 : Two H3 (H.next + 1) (.slice none 0 0) (.int .i64 0) := r2.keep T3.1 (s3 _ (X2.wf.lt r2.bp) (by simp))
  obtain ⟨H4, st4, la4, w4, rs4, n4, b4, k4, fin⟩ := took_end (f' := (uS l f).2.2) hw rs hxl X3 r3 (by omega) b'
  have T5 := ruint_T rs4
  have hsuf : (uS l f).2.1 <:+ l := uS_suf l f
  obtain ⟨H6, la5, st6, la6, rs6, b6, sm⟩ := fin T5 (Same.putp p _) (rs4.step _ hsuf)
  obtain ⟨l', hl'⟩ : ∃ l', l' = (uS l f).2.1 := ⟨_, rfl⟩
  obtain ⟨f', hf'⟩ : ∃ f', f' = (uS l f).2.2 := ⟨_, rfl⟩
  obtain ⟨u, hu⟩ : ∃ u, u = (uS l f).1 := ⟨_, rfl⟩
  simp only [dR] at T3
  rw [← hf', ← hu] at T3
  rw [← hl', ← hf', ← hu] at T5
  rw [← hl'] at hsuf b6
  rw [← hf'] at st4 la4
  rw [← hl', ← hf'] at rs6
  rw [← hl', ← hf'] at la5
  rw [← hl', ← hf'] at st6
  rw [← hf'] at la6
  simp [L28, hN, la2]
  refine goT_of T3 ?_
  simp [st4, la4]
  refine goT_of T5 ?_
  simp [la5, st6, la6]
  exact ⟨xr', l', f', by simp, rs6, b6, hsuf, sm⟩
theorem flagS_suf (l : List Nat) (f : Nat) : (flagS l f).2.1 <:+ l := by
  unfold flagS; split <;> exact nxS_suf l f
theorem took1_T {H : Heap} (hw : H.WF) {p : Nat} {x xr : Value} {b l : List Nat} {f : Nat} (rs : RS H p x b l f) (hxl : ∀ b, blkOf x = some b → b < H.next) (bs : Bs H xr l) (hl : l.length ≤ 1000000) :
    ∃ v H', T Try.prog 28 [ptr p, dR xr f, iz 1] H v H' ∧ TookQ H p x b l v H' := by
  refine T_by hm light28 ?_
  obtain ⟨H2, hN, X2, v2, r2⟩ := setR hw xr (.int .i64 (f : Int))
  have la2 := v2.loadA
  obtain ⟨v3, H3, T3, xr', rfl, b', s3⟩ := intR2_T X2 bs rs.lt f
  have X3 := X2.call T3 s3
  have n3 := T3.grow.next
  have n2 : H2.next = H.next + 2 := by rw [← hN]; rfl
  have r3 : Two H3 (H.next + 1) (.slice none 0 0) (.int .i64 0) := r2.keep T3.1 (s3 _ (X2.wf.lt r2.bp) (by simp))
  obtain ⟨H4, st4, la4, w4, rs4, n4, b4, k4, fin⟩ := took_end (f' := (iS l f).2.2) hw rs hxl X3 r3 (by omega) b'
  have T5 := rint_T rs4
  have hsuf : (iS l f).2.1 <:+ l := iS_suf l f
  obtain ⟨H6, la5, st6, la6, rs6, b6, sm⟩ := fin T5 (Same.putp p _) (rs4.step _ hsuf)
  obtain ⟨l', hl'⟩ : ∃ l', l' = (iS l f).2.1 := ⟨_, rfl⟩
  obtain ⟨f', hf'⟩ : ∃ f', f' = (iS l f).2.2 := ⟨_, rfl⟩
  obtain ⟨u, hu⟩ : ∃ u, u = (iS l f).1 := ⟨_, rfl⟩
  simp only [dR] at T3
  rw [← hf', ← hu] at T3
  rw [← hl', ← hf', ← hu] at T5
  rw [← hl'] at hsuf b6
  rw [← hf'] at st4 la4
  rw [← hl', ← hf'] at rs6
  rw [← hl', ← hf'] at la5
  rw [← hl', ← hf'] at st6
  rw [← hf'] at la6
  simp [L28, hN, la2]
  refine goT_of T3 ?_
  simp [st4, la4]
  refine goT_of T5 ?_
  simp [la5, st6, la6]
  exact ⟨xr', l', f', by simp, rs6, b6, hsuf, sm⟩
theorem took2_T {H : Heap} (hw : H.WF) {p : Nat} {x xr : Value} {b l : List Nat} {f : Nat} (rs : RS H p x b l f) (hxl : ∀ b, blkOf x = some b → b < H.next) (bs : Bs H xr l) (hl : l.length ≤ 1000000) :
    ∃ v H', T Try.prog 28 [ptr p, dR xr f, iz 2] H v H' ∧ TookQ H p x b l v H' := by
  refine T_by hm light28 ?_
  obtain ⟨H2, hN, X2, v2, r2⟩ := setR hw xr (.int .i64 (f : Int))
  have la2 := v2.loadA
  obtain ⟨v3, H3, T3, xr', rfl, b', s3⟩ := flagR2_T X2 bs f
  have X3 := X2.call T3 s3
  have n3 := T3.grow.next
  have n2 : H2.next = H.next + 2 := by rw [← hN]; rfl
  have r3 : Two H3 (H.next + 1) (.slice none 0 0) (.int .i64 0) := r2.keep T3.1 (s3 _ (X2.wf.lt r2.bp) (by simp))
  obtain ⟨H4, st4, la4, w4, rs4, n4, b4, k4, fin⟩ := took_end (f' := (flagS l f).2.2) hw rs hxl X3 r3 (by omega) b'
  have T5 := rflag_T rs4
  have hsuf : (flagS l f).2.1 <:+ l := flagS_suf l f
  obtain ⟨H6, la5, st6, la6, rs6, b6, sm⟩ := fin T5 (Same.putp p _) (rs4.step _ hsuf)
  obtain ⟨l', hl'⟩ : ∃ l', l' = (flagS l f).2.1 := ⟨_, rfl⟩
  obtain ⟨f', hf'⟩ : ∃ f', f' = (flagS l f).2.2 := ⟨_, rfl⟩
  obtain ⟨u, hu⟩ : ∃ u, u = (flagS l f).1 := ⟨_, rfl⟩
  simp only [dR] at T3
  rw [← hf', ← hu] at T3
  rw [← hl', ← hf', ← hu] at T5
  rw [← hl'] at hsuf b6
  rw [← hf'] at st4 la4
  rw [← hl', ← hf'] at rs6
  rw [← hl', ← hf'] at la5
  rw [← hl', ← hf'] at st6
  rw [← hf'] at la6
  simp [L28, hN, la2]
  refine goT_of T3 ?_
  simp [st4, la4]
  refine goT_of T5 ?_
  simp [la5, st6, la6]
  exact ⟨xr', l', f', by simp, rs6, b6, hsuf, sm⟩
theorem took3_T {H : Heap} (hw : H.WF) {p : Nat} {x xr : Value} {b l : List Nat} {f : Nat} (rs : RS H p x b l f) (hxl : ∀ b, blkOf x = some b → b < H.next) (bs : Bs H xr l) (hl : l.length ≤ 1000000) :
    ∃ v H', T Try.prog 28 [ptr p, dR xr f, iz 3] H v H' ∧ TookQ H p x b l v H' := by
  refine T_by hm light28 ?_
  have eq : ∀ z : ByteArray, sBin .eql (.string z) (.string z) = some (.bool true) := fun z => by simp [sBin, sBinS]
  obtain ⟨H2, hN, X2, v2, r2⟩ := setR hw xr (.int .i64 (f : Int))
  have la2 := v2.loadA
  obtain ⟨v3, H3, T3, xr', rfl, b', s3⟩ := textR2_T X2 bs rs.lt (by omega) f
  have X3 := X2.call T3 s3
  have n3 := T3.grow.next
  have n2 : H2.next = H.next + 2 := by rw [← hN]; rfl
  have r3 : Two H3 (H.next + 1) (.slice none 0 0) (.int .i64 0) := r2.keep T3.1 (s3 _ (X2.wf.lt r2.bp) (by simp))
  obtain ⟨H4, st4, la4, w4, rs4, n4, b4, k4, fin⟩ := took_end (f' := (textS l f).2.2) hw rs hxl X3 r3 (by omega) b'
  have T5 := rtext_T rs4
  have hsuf : (textS l f).2.1 <:+ l := textS_suf l f
  obtain ⟨H6, la5, st6, la6, rs6, b6, sm⟩ := fin T5 (Same.putp p _) (rs4.step _ hsuf)
  obtain ⟨l', hl'⟩ : ∃ l', l' = (textS l f).2.1 := ⟨_, rfl⟩
  obtain ⟨f', hf'⟩ : ∃ f', f' = (textS l f).2.2 := ⟨_, rfl⟩
  obtain ⟨u, hu⟩ : ∃ u, u = strB (textS l f).1 := ⟨_, rfl⟩
  simp only [dR] at T3
  rw [← hf', ← hu] at T3
  rw [← hl', ← hf', ← hu] at T5
  rw [← hl'] at hsuf b6
  rw [← hf'] at st4 la4
  rw [← hl', ← hf'] at rs6
  rw [← hl', ← hf'] at la5
  rw [← hl', ← hf'] at st6
  rw [← hf'] at la6
  simp [L28, hN, la2, eq]
  refine goT_of T3 ?_
  simp [st4, la4, eq]
  refine goT_of T5 ?_
  simp [la5, st6, la6, eq]
  exact ⟨xr', l', f', by simp, rs6, b6, hsuf, sm⟩
theorem took5_T {H : Heap} (hw : H.WF) {p : Nat} {x xr : Value} {b l : List Nat} {f : Nat} (rs : RS H p x b l f) (hxl : ∀ b, blkOf x = some b → b < H.next) (bs : Bs H xr l) (hl : l.length ≤ 1000000) {call least : Int} (c0 : call ≠ 0) (c1 : call ≠ 1) (c2 : call ≠ 2) (c3 : call ≠ 3) (c4 : call ≠ 4) (hwr : IntKind.i64.wrap (call - 5) = least) (hle : okI2 least) :
    ∃ v H', T Try.prog 28 [ptr p, dR xr f, iz call] H v H' ∧ TookQ H p x b l v H' := by
  refine T_by hm light28 ?_
  have h0 : (call == 0) = false := by simp [c0]
  have h1 : (call == 1) = false := by simp [c1]
  have h2 : (call == 2) = false := by simp [c2]
  have h3 : (call == 3) = false := by simp [c3]
  have h4 : (call == 4) = false := by simp [c4]
  obtain ⟨H2, hN, X2, v2, r2⟩ := setR hw xr (.int .i64 (f : Int))
  have la2 := v2.loadA
  obtain ⟨v3, H3, T3, xr', rfl, b', s3⟩ := countR2_T X2 bs rs.lt (by omega) f least hle
  have X3 := X2.call T3 s3
  have n3 := T3.grow.next
  have n2 : H2.next = H.next + 2 := by rw [← hN]; rfl
  have r3 : Two H3 (H.next + 1) (.slice none 0 0) (.int .i64 0) := r2.keep T3.1 (s3 _ (X2.wf.lt r2.bp) (by simp))
  obtain ⟨H4, st4, la4, w4, rs4, n4, b4, k4, fin⟩ := took_end (f' := (countS l f least).2.2) hw rs hxl X3 r3 (by omega) b'
  have T5 := rcount_T rs4 least hle
  have hsuf : (countS l f least).2.1 <:+ l := countS_suf l f least
  obtain ⟨H6, la5, st6, la6, rs6, b6, sm⟩ := fin T5 (Same.putp p _) (rs4.step _ hsuf)
  obtain ⟨l', hl'⟩ : ∃ l', l' = (countS l f least).2.1 := ⟨_, rfl⟩
  obtain ⟨f', hf'⟩ : ∃ f', f' = (countS l f least).2.2 := ⟨_, rfl⟩
  obtain ⟨u, hu⟩ : ∃ u, u = (countS l f least).1 := ⟨_, rfl⟩
  simp only [dR] at T3
  rw [← hf', ← hu] at T3
  rw [← hl', ← hf', ← hu] at T5
  rw [← hl'] at hsuf b6
  rw [← hf'] at st4 la4
  rw [← hl', ← hf'] at rs6
  rw [← hl', ← hf'] at la5
  rw [← hl', ← hf'] at st6
  rw [← hf'] at la6
  simp [L28, hN, la2, h0, h1, h2, h3, h4, hwr]
  refine goT_of T3 ?_
  simp [st4, la4, h0, h1, h2, h3, h4, hwr]
  refine goT_of T5 ?_
  simp [la5, st6, la6, h0, h1, h2, h3, h4, hwr]
  exact ⟨xr', l', f', by simp, rs6, b6, hsuf, sm⟩
theorem Ints.past {H H' : Heap} {p : Nat} {k : IntKind} {y : Value} {l : List Int} (h : Ints H k y l) (hw : H.WF) (hb : H'.base = H.base) (hs : Same H H' [p]) (hy : ∀ b, blkOf y = some b → b ≠ p) : Ints H' k y l := by
  rcases h with h | ⟨c, off, cc, rfl, h⟩
  · exact .inl h
  · refine .inr ⟨c, off, cc, rfl, fun i hi => ?_⟩
    have h1 := h i hi
    rw [load_off hb (hs c (load_lt hw h1) (by simpa using hy c rfl))]
    exact h1
theorem took4_T {H : Heap} (hw : H.WF) {p : Nat} {x xr : Value} {b l : List Nat} {f : Nat} (rs : RS H p x b l f) (hxl : ∀ b, blkOf x = some b → b < H.next) (bs : Bs H xr l) (hl : l.length ≤ 1000000) :
    ∃ v H', T Try.prog 28 [ptr p, dR xr f, iz 4] H v H' ∧ TookQ H p x b l v H' := by
  refine T_by hm light28 ?_
  obtain ⟨H2, hN, X2, v2, r2⟩ := setR hw xr (.int .i64 (f : Int))
  have la2 := v2.loadA
  obtain ⟨v3, H3, T3, xr', y, rfl, b', iy, yn, s3⟩ := intsR2_T X2 bs rs.lt hl f
  have X3 := X2.call T3 s3
  have n3 := T3.grow.next
  have hpn := hw.lt rs.rd.bp
  have n2 : H2.next = H.next + 2 := by rw [← hN]; rfl
  have r3 : Two H3 (H.next + 1) (.slice none 0 0) (.int .i64 0) := r2.keep T3.1 (s3 _ (X2.wf.lt r2.bp) (by simp))
  obtain ⟨H4, st4, la4, w4, rs4, n4, b4, k4, fin⟩ := took_end (f' := (intsS l f).2.2) hw rs hxl X3 r3 (by omega) b'
  obtain ⟨v5, H5, T5, rs5, i5, s5⟩ := rints_T w4 rs4 (fun c hc => by have := hxl c hc; omega) hl
  have hsuf : (intsS l f).2.1 <:+ l := intsS_suf l f
  obtain ⟨H6, la5, st6, la6, rs6, b6, sm⟩ := fin T5 s5 rs5
  have iy4 : Ints H4 .i64 y (intsS l f).1 := iy.keep X3.wf b4 k4
  have iy5 : Ints H5 .i64 y (intsS l f).1 := Ints.past iy4 w4 T5.1 s5 (fun c hc => by have := yn c hc; omega)
  have hll : (intsS l f).1.length ≤ 1000000 := by
    have h1 := countS_small l f 1
    have h2 : ∀ n l f, (intsN n l f).1.length = n := by
      intro n
      induction n with
      | zero => intro l f; rfl
      | succ n ih => intro l f; simp only [intsN, List.length_cons]; rw [ih]
    unfold intsS
    split
    · simp
    · rw [h2]; omega
  have T6 := same_T i5 iy5 hll
  obtain ⟨l', hl'⟩ : ∃ l', l' = (intsS l f).2.1 := ⟨_, rfl⟩
  obtain ⟨f', hf'⟩ : ∃ f', f' = (intsS l f).2.2 := ⟨_, rfl⟩
  have hny : notTup y = true := by
    obtain ⟨a, c, h⟩ := iy.len
    rw [h]; rfl
  simp only [dR] at T3
  rw [← hf'] at T3
  rw [← hl'] at hsuf b6
  rw [← hf'] at st4 la4
  rw [← hl', ← hf'] at rs6
  rw [← hf'] at la5
  rw [← hf'] at st6
  rw [← hf'] at la6
  simp [L28, hN, la2]
  refine goT_of T3 ?_
  simp [st4, la4]
  refine goT_of T5 ?_
  simp [la5]
  refine goT_of T6 ?_
  simp [la5, st6, la6]
  exact ⟨xr', l', f', by simp, rs6, b6, hsuf, sm⟩
/-- One call of both is answered alike. -/
theorem took_T {H : Heap} (hw : H.WF) {p : Nat} {x xr : Value} {b l : List Nat} {f : Nat} (rs : RS H p x b l f) (hxl : ∀ b, blkOf x = some b → b < H.next) (bs : Bs H xr l) (hl : l.length ≤ 1000000) (call : Int) :
    ∃ v H', T Try.prog 28 [ptr p, dR xr f, iz call] H v H' ∧ TookQ H p x b l v H' := by
  by_cases c0 : call = 0
  · subst c0; exact took0_T hw rs hxl bs hl
  by_cases c1 : call = 1
  · subst c1; exact took1_T hw rs hxl bs hl
  by_cases c2 : call = 2
  · subst c2; exact took2_T hw rs hxl bs hl
  by_cases c3 : call = 3
  · subst c3; exact took3_T hw rs hxl bs hl
  by_cases c4 : call = 4
  · subst c4; exact took4_T hw rs hxl bs hl
  · refine took5_T hw rs hxl bs hl c0 c1 c2 c3 c4 (least := IntKind.i64.wrap (call - 5)) rfl ?_
    unfold okI2
    simp only [IntKind.wrap, IntKind.bits, IntKind.signed]
    simp
    omega
end Go.Proofs.Ytpcgganldmmpoaa
