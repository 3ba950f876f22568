/-
  The document's reader: counts, texts; what is left, the end.
-/
import Derived.Test.YtpcgganldmmpoaaSeatAE
namespace Go.Proofs.Ytpcgganldmmpoaa
open Go.Ot
set_option linter.unusedSimpArgs false
set_option linter.unusedVariables false
theorem quo_i64 (a b : Nat) (hb : b ≠ 0) (ha : a < 9223372036854775808) : sBin .quo (.int .i64 (a : Int)) (.int .i64 (b : Int)) = some (.int .i64 ((a / b : Nat) : Int)) := by
  have h : a / b ≤ a := Nat.div_le_self _ _
  rw [sBin_quo, if_neg (by omega), Int.tdiv_eq_ediv_of_nonneg (by omega), show (a : Int) / (b : Int) = ((a / b : Nat) : Int) from rfl]
  generalize a / b = q at h ⊢
  rw [w64 _ (by omega)]
theorem Bs.upto' {H : Heap} {x : Value} {l : List Nat} (h : Bs H x l) (hi : Nat) (h1 : hi ≤ l.length) :
    ∃ y, sSlice 1 x none (some (.int .i64 (hi : Int))) none = some y ∧ Bs H y (l.take hi) := by
  by_cases h0 : 0 < l.length
  · obtain ⟨_, ⟨a, c, h2, h3⟩, _⟩ := h.part hi hi (Nat.le_refl _) h1 h0
    exact ⟨_, h2, h3⟩
  · have e : hi = 0 := by omega
    subst e
    have e2 : l = [] := List.length_eq_zero_iff.1 (by omega)
    subst e2
    rcases h with ⟨rfl, _⟩ | ⟨b, off, c, rfl, h⟩
    · exact ⟨.slice none 0 0, by simp [sSlice, bnd], .inl ⟨rfl, rfl⟩⟩
    · refine ⟨_, by simp [sSlice, bnd, add_own]; rfl, .inr ⟨b, off, _, rfl, fun i hi => absurd hi (by simp)⟩⟩
theorem countR2_T {H0 H : Heap} (hX : Xt H0 H) {xr : Value} {l : List Nat} (hx0 : Bs H0 xr l) (hlt : ∀ c ∈ l, c < 256) (hlen : l.length ≤ 140737488355328) (fail : Nat) (least : Int) (hle : okI2 least) :
    ∃ v H', T Try.prog 54 [dR xr fail, .int .i64 least] H v H' ∧ ∃ xr', v = .tuple #[dR xr' (countS l fail least).2.2, .int .i64 ((countS l fail least).1 : Int)] ∧ Bs H0 xr' (countS l fail least).2.1 ∧ Same H H' [] := by
  refine T_by hm light54 ?_
  obtain ⟨H2, hN, X2, v2, r2⟩ := setR hX.wf xr (.int .i64 (fail : Int))
  have la2 := v2.loadA
  obtain ⟨v3, H3, T3, xr', rfl, b', s3⟩ := uintR2_T (hX.trans X2) hx0 hlt fail
  have hlt3 := uS_lt l fail hlt
  have huf := uS_fail l fail
  have hsl := (uS_suf l fail).length_le
  unfold countS
  obtain ⟨u, hu⟩ : ∃ u, u = (uS l fail).1 := ⟨_, rfl⟩
  obtain ⟨l2, hl2⟩ : ∃ l2, l2 = (uS l fail).2.1 := ⟨_, rfl⟩
  obtain ⟨f, hf⟩ : ∃ f, f = (uS l fail).2.2 := ⟨_, rfl⟩
  have hup : uS l fail = (u, l2, f) := by rw [hu, hl2, hf]
  rw [← hu, ← hf] at huf
  rw [← hu] at hlt3
  rw [← hl2] at b' hsl
  rw [hup]
  rw [← hu, ← hf] at T3
  simp only [dR] at T3 ⊢
  obtain ⟨H4, sa, X4, v4, r4⟩ := aftR X2 v2 r2 T3 s3 xr' (.int .i64 (f : Int))
  have ld4 := v4.load
  have hln := b'.lenL
  obtain ⟨k, hk⟩ : ∃ k, k = atLeast least := ⟨_, rfl⟩
  have hk0 : k ≠ 0 := by rw [hk]; unfold atLeast; split <;> omega
  have hkl : (least < 1 ∧ k = 1) ∨ (¬ least < 1 ∧ least = (k : Int)) := by rw [hk]; unfold atLeast; split <;> omega
  rw [← hk]
  obtain ⟨m, hm'⟩ : ∃ m, m = l2.length := ⟨_, rfl⟩
  rw [← hm'] at hln
  have q := quo_i64 m k hk0 (by omega)
  obtain ⟨d, hd⟩ : ∃ d, d = m / k := ⟨_, rfl⟩
  have hdl : d ≤ 140737488355328 := by rw [hd]; exact Nat.le_trans (Nat.div_le_self _ _) (by omega)
  rw [← hd] at q
  have c1 : IntKind.u64.wrap (d : Int) = (d : Int) := wu64 _ (by omega)
  by_cases f0 : f = 0
  case neg =>
    have u0 := huf f0
    subst u0
    have hlt0 : ¬ leftN l2 f / k < 0 := Nat.not_lt_zero _
    rw [if_neg hlt0]
    simp only
    obtain ⟨H5, la, sb, lb, sm⟩ := finR X4 v4 r4
    rcases hkl with ⟨g, _⟩ | ⟨g, _⟩ <;>
    · simp [L54, hN, la2]
      refine goT_of T3 ?_
      simp [sa, ld4, f0, g, la, sb, lb]
      exact ⟨b', sm⟩
  subst f0
  have elf : leftN l2 0 = m := by simp [leftN, hm']
  have sa' : sStore H3 2 (ptr H.next) (.agg #[xr', .int .i64 0]) = some H4 := sa
  rw [elf, ← hd]
  by_cases hdu : d < u
  · rw [if_pos hdu]
    have st4 := v4.store 1 (.int .i64 20) (by decide)
    simp only [List.set_cons_succ, List.set_cons_zero] at st4
    have v5 := v4.put xr' (.int .i64 20)
    obtain ⟨H6, la, sb, lb, sm⟩ := finR (X4.put (Nat.le_refl _) [xr', .int .i64 20]) v5 (r4.beside (by omega) _)
    obtain ⟨H5, hH5⟩ : ∃ H5, H5 = H4.put H.next [xr', .int .i64 20] := ⟨_, rfl⟩
    rw [← hH5] at st4 la sb
    rcases hkl with ⟨g, gk⟩ | ⟨g, gk⟩
    · rw [gk] at q
      simp [L54, hN, la2]
      refine goT_of T3 ?_
      have q' : sBin .quo (.int .i64 (m : Int)) (.int .i64 1) = some (.int .i64 (d : Int)) := q
      simp [sa', ld4, g, hln, q', c1, hdu, st4, la, sb, lb]
      exact ⟨b', sm⟩
    · rw [← gk] at q
      simp [L54, hN, la2]
      refine goT_of T3 ?_
      simp [sa', ld4, g, hln, q, c1, hdu, st4, la, sb, lb]
      exact ⟨b', sm⟩
  · rw [if_neg hdu]
    obtain ⟨H5, la, sb, lb, sm⟩ := finR X4 v4 r4
    have la' : H4.loadN ⟨H.next, 0, none⟩ 0 2 = some [xr', .int .i64 0] := la
    have sb' : sStore H4 2 (ptr (H.next + 1)) (.agg #[xr', .int .i64 0]) = some H5 := sb
    have lb' : H5.loadN ⟨H.next + 1, 0, none⟩ 0 2 = some [xr', .int .i64 0] := lb
    have c3 : IntKind.i64.wrap (u : Int) = (u : Int) := w64 _ (by omega)
    rcases hkl with ⟨g, gk⟩ | ⟨g, gk⟩
    · rw [gk] at q
      simp [L54, hN, la2]
      refine goT_of T3 ?_
      have q' : sBin .quo (.int .i64 (m : Int)) (.int .i64 1) = some (.int .i64 (d : Int)) := q
      simp [sa', ld4, g, hln, q', c1, hdu, c3, la', sb', lb']
      exact ⟨b', sm⟩
    · rw [← gk] at q
      simp [L54, hN, la2]
      refine goT_of T3 ?_
      simp [sa', ld4, g, hln, q, c1, hdu, c3, la', sb', lb']
      exact ⟨b', sm⟩
theorem textR2_T {H0 H : Heap} (hX : Xt H0 H) {xr : Value} {l : List Nat} (hx0 : Bs H0 xr l) (hlt : ∀ c ∈ l, c < 256) (hlen : l.length ≤ 140737488355328) (fail : Nat) :
    ∃ v H', T Try.prog 52 [dR xr fail] H v H' ∧ ∃ xr', v = .tuple #[dR xr' (textS l fail).2.2, .string (strB (textS l fail).1)] ∧ Bs H0 xr' (textS l fail).2.1 ∧ Same H H' [] := by
  refine T_by hm light52 ?_
  obtain ⟨H2, hN, X2, v2, r2⟩ := setR hX.wf xr (.int .i64 (fail : Int))
  have la2 := v2.loadA
  obtain ⟨v3, H3, T3, xr', rfl, b', s3⟩ := countR2_T (hX.trans X2) hx0 hlt hlen fail 1 (by unfold okI2; omega)
  have hle := countS_le l fail 1
  unfold textS
  obtain ⟨n, hn⟩ : ∃ n, n = (countS l fail 1).1 := ⟨_, rfl⟩
  obtain ⟨l2, hl2⟩ : ∃ l2, l2 = (countS l fail 1).2.1 := ⟨_, rfl⟩
  obtain ⟨f, hf⟩ : ∃ f, f = (countS l fail 1).2.2 := ⟨_, rfl⟩
  have hup : countS l fail 1 = (n, l2, f) := by rw [hn, hl2, hf]
  rw [hup] at T3 b' hle ⊢
  simp only [dR] at T3 b' hle ⊢
  obtain ⟨H4, sa, X4, v4, r4⟩ := aftR X2 v2 r2 T3 s3 xr' (.int .i64 (f : Int))
  have ld4 := v4.load
  by_cases f0 : f = 0
  case neg =>
    rw [if_pos f0]
    obtain ⟨H5, la, sb, lb, sm⟩ := finR X4 v4 r4
    simp [L52, hN, la2]
    refine goT_of T3 ?_
    have es : strB [] = ByteArray.empty := rfl
    simp [sa, ld4, f0, la, sb, lb, es]
    exact ⟨b', sm⟩
  subst f0
  rw [if_neg (by simp : ¬ (0 : Nat) ≠ 0)]
  have hnl := hle rfl
  have sa' : sStore H3 2 (ptr H.next) (.agg #[xr', .int .i64 0]) = some H4 := sa
  have b4 := (hX.trans X4).bs b'
  obtain ⟨y1, hy1, by1⟩ := b4.upto' n hnl
  obtain ⟨y2, hy2, by2⟩ := b'.from' n hnl
  have hts := toStr_bs by1
  have st4 := v4.store 0 y2 (by decide)
  simp only [List.set_cons_zero] at st4
  have v5 := v4.put y2 (.int .i64 0)
  obtain ⟨H6, la, sb, lb, sm⟩ := finR (X4.put (Nat.le_refl _) [y2, .int .i64 0]) v5 (r4.beside (by omega) _)
  obtain ⟨H5, hH5⟩ : ∃ H5, H5 = H4.put H.next [y2, .int .i64 0] := ⟨_, rfl⟩
  have st5 : sStore H4 1 (ptr H.next) y2 = some H5 := by
    obtain ⟨ya, yc, hyy⟩ := by2.len
    have := st4
    rw [hyy] at this hH5 ⊢
    rw [hH5]
    simpa using this
  rw [← hH5] at la sb
  obtain ⟨z, hz⟩ : ∃ z, z = strB (l2.take n) := ⟨_, rfl⟩
  rw [← hz] at hts ⊢
  simp [L52, hN, la2]
  refine goT_of T3 ?_
  simp [sa', ld4, hy1, hts, hy2, st5, la, sb, lb]
  exact ⟨by2, sm⟩
theorem leftR_T {H : Heap} (hw : H.WF) {xr : Value} {l : List Nat} (hx : Bs H xr l) (fail : Nat) : ∃ v H', T Try.prog 29 [dR xr fail] H v H' ∧ v = .int .i64 (leftN l fail : Int) ∧ Same H H' [] := by
  refine T_by hm light29 ?_
  have v1 := Two.mk' hw xr (.int .i64 (fail : Int))
  have ld := v1.load
  have hln := hx.lenL
  have sm : Same H (H.new 53 2 [xr, .int .i64 (fail : Int)]) [] := ((Xt.refl hw).new _ _ _).same
  obtain ⟨H1, hH1⟩ : ∃ H1, H1 = H.new 53 2 [xr, .int .i64 (fail : Int)] := ⟨_, rfl⟩
  rw [← hH1] at ld sm
  unfold leftN
  by_cases hf : fail = 0
  · subst hf
    have hN : H.new 53 2 [xr, .int .i64 0] = H1 := hH1.symm
    simp [L29, hN, ld, hln, sm]
  · simp [L29, ← hH1, ld, hf, sm]
theorem endR_T {H : Heap} (hw : H.WF) {xr : Value} {l : List Nat} (hx : Bs H xr l) (fail : Nat) : ∃ v H', T Try.prog 31 [dR xr fail] H v H' ∧ v = .int .i64 (endN l fail : Int) ∧ Same H H' [] := by
  refine T_by hm light31 ?_
  have v1 := Two.mk' hw xr (.int .i64 (fail : Int))
  have ld := v1.load
  have hln := hx.lenL
  have sm : Same H (H.new 53 2 [xr, .int .i64 (fail : Int)]) [] := ((Xt.refl hw).new _ _ _).same
  obtain ⟨H1, hH1⟩ : ∃ H1, H1 = H.new 53 2 [xr, .int .i64 (fail : Int)] := ⟨_, rfl⟩
  rw [← hH1] at ld sm
  unfold endN
  by_cases hf : fail = 0
  · subst hf
    have hN : H.new 53 2 [xr, .int .i64 0] = H1 := hH1.symm
    by_cases h1 : 0 < l.length
    · simp [L31, hN, ld, hln, h1, sm]
    · simp [L31, hN, ld, hln, h1, sm]
  · simp [L31, ← hH1, ld, hf, sm]
end Go.Proofs.Ytpcgganldmmpoaa
