/-
  The document's reader: numbers, flags, counts, texts; what is left, the end.
-/
import Derived.Test.YtpcgganldmmpoaaSeatAD
namespace Go.Proofs.Ytpcgganldmmpoaa
open Go.Ot
set_option linter.unusedSimpArgs false
set_option linter.unusedVariables false
theorem setR {H : Heap} (hw : H.WF) (x fv : Value) : ∃ H2, (H.new 53 2 [x, fv]).new 53 2 [.slice none 0 0, .int .i64 0] = H2 ∧ Xt H H2 ∧ Two H2 H.next x fv ∧ Two H2 (H.next + 1) (.slice none 0 0) (.int .i64 0) := by
  refine ⟨_, rfl, ((Xt.refl hw).new _ _ _).new _ _ _, (Two.mk' hw _ _).new (WF_new hw _ _ _) _ _ _, ?_⟩
  exact Two.mk' (WF_new hw _ _ _) _ _
theorem aftR {H H2 H3 : Heap} {f : FuncId} {args : List Value} {v a b c d : Value} (X2 : Xt H H2) (v2 : Two H2 H.next a b) (r2 : Two H2 (H.next + 1) c d) (hT : T Try.prog f args H2 v H3) (s : Same H2 H3 []) (x' fv : Value) :
    ∃ H4, sStore H3 2 (ptr H.next) (.agg #[x', fv]) = some H4 ∧ Xt H H4 ∧ Two H4 H.next x' fv ∧ Two H4 (H.next + 1) c d := by
  have X3 := X2.call hT s
  have v3 : Two H3 H.next a b := v2.keep hT.1 (s _ (X2.wf.lt v2.bp) (by simp))
  have r3 : Two H3 (H.next + 1) c d := r2.keep hT.1 (s _ (X2.wf.lt r2.bp) (by simp))
  exact ⟨_, v3.storeA _ _, X3.put (Nat.le_refl _) _, v3.put _ _, r3.beside (by omega) _⟩
theorem finR {H G : Heap} {x' fv c d : Value} (hG : Xt H G) (h1 : Two G H.next x' fv) (h2 : Two G (H.next + 1) c d) :
    ∃ G', G.loadN ⟨H.next, 0, none⟩ 0 2 = some [x', fv] ∧ sStore G 2 (ptr (H.next + 1)) (.agg #[x', fv]) = some G' ∧ G'.loadN ⟨H.next + 1, 0, none⟩ 0 2 = some [x', fv] ∧ Same H G' [] :=
  ⟨_, h1.loadA, h2.storeA _ _, (h2.put _ _).loadA, (hG.put (Nat.le_succ _) _).same⟩
theorem intR2_T {H0 H : Heap} (hX : Xt H0 H) {xr : Value} {l : List Nat} (hx0 : Bs H0 xr l) (hlt : ∀ c ∈ l, c < 256) (fail : Nat) :
    ∃ v H', T Try.prog 50 [dR xr fail] H v H' ∧ ∃ xr', v = .tuple #[dR xr' (iS l fail).2.2, .int .i64 (iS l fail).1] ∧ Bs H0 xr' (iS l fail).2.1 ∧ Same H H' [] := by
  refine T_by hm light50 ?_
  obtain ⟨H2, hN, X2, v2, r2⟩ := setR hX.wf xr (.int .i64 (fail : Int))
  have la2 := v2.loadA
  obtain ⟨v3, H3, T3, xr', rfl, b', s3⟩ := uintR2_T (hX.trans X2) hx0 hlt fail
  have hlt3 := uS_lt l fail hlt
  unfold iS
  obtain ⟨u, hu⟩ : ∃ u, u = (uS l fail).1 := ⟨_, rfl⟩
  obtain ⟨fv, hfv⟩ : ∃ fv : Value, fv = .int .i64 ((uS l fail).2.2 : Int) := ⟨_, rfl⟩
  obtain ⟨l2, hl2⟩ : ∃ l2, l2 = (uS l fail).2.1 := ⟨_, rfl⟩
  simp only [dR]
  simp only [dR] at T3
  rw [← hu, ← hfv] at T3 ⊢
  rw [← hl2] at b' ⊢
  rw [← hu] at hlt3
  obtain ⟨H4, sa, X4, v4, r4⟩ := aftR X2 v2 r2 T3 s3 xr' fv
  obtain ⟨H5, la, sb, lb, sm⟩ := finR X4 v4 r4
  have e1 : sBin .rem (.int .u64 (u : Int)) (.int .u64 2) = some (.int .u64 ((u % 2 : Nat) : Int)) := rem_nat .u64 u 2 (by decide)
  have e2 : sBin .quo (.int .u64 (u : Int)) (.int .u64 2) = some (.int .u64 ((u / 2 : Nat) : Int)) := quo_u64 u 2 (by decide) hlt3
  obtain ⟨s, hs⟩ : ∃ s, s = u / 2 := ⟨_, rfl⟩
  have e3 : IntKind.i64.wrap (s : Int) = (s : Int) := w64 _ (by omega)
  have e4 : IntKind.i64.wrap (-(s : Int)) = -(s : Int) := w64 _ (by omega)
  have e5 : IntKind.i64.wrap (-(s : Int) - 1) = -(s : Int) - 1 := w64 _ (by omega)
  rw [← hs] at e2
  unfold unzz
  rw [← hs]
  by_cases hz : u % 2 = 0
  · rw [hz] at e1
    rw [if_pos hz]
    simp [L50, hN, la2]
    refine goT_of T3 ?_
    simp [sa, e1, e2, e3, la, sb, lb]
    exact ⟨b', sm⟩
  · have hz1 : u % 2 = 1 := by omega
    rw [hz1] at e1
    rw [if_neg hz]
    simp [L50, hN, la2]
    refine goT_of T3 ?_
    simp [sa, e1, e2, e3, e4, e5, la, sb, lb]
    exact ⟨b', sm⟩
theorem flagR2_T {H0 H : Heap} (hX : Xt H0 H) {xr : Value} {l : List Nat} (hx0 : Bs H0 xr l) (fail : Nat) :
    ∃ v H', T Try.prog 51 [dR xr fail] H v H' ∧ ∃ xr', v = .tuple #[dR xr' (flagS l fail).2.2, .bool (flagS l fail).1] ∧ Bs H0 xr' (flagS l fail).2.1 ∧ Same H H' [] := by
  refine T_by hm light51 ?_
  obtain ⟨H2, hN, X2, v2, r2⟩ := setR hX.wf xr (.int .i64 (fail : Int))
  have la2 := v2.loadA
  obtain ⟨v3, H3, T3, xr', rfl, b', s3⟩ := byteR_T (hX.trans X2) hx0 fail
  have hn0 : (nxS l fail).2.2 ≠ 0 → (nxS l fail).1 = 0 := by
    unfold nxS
    split
    · simp
    · split <;> simp
  unfold flagS
  obtain ⟨c, hc⟩ : ∃ c, c = (nxS l fail).1 := ⟨_, rfl⟩
  obtain ⟨f, hf⟩ : ∃ f, f = (nxS l fail).2.2 := ⟨_, rfl⟩
  obtain ⟨l2, hl2⟩ : ∃ l2, l2 = (nxS l fail).2.1 := ⟨_, rfl⟩
  simp only [dR]
  simp only [dR] at T3
  rw [← hc, ← hf] at T3 hn0
  rw [← hl2] at b'
  rw [← hc, ← hf, ← hl2]
  obtain ⟨H4, sa, X4, v4, r4⟩ := aftR X2 v2 r2 T3 s3 xr' (.int .i64 (f : Int))
  have ld4 := v4.load
  by_cases h1 : 1 < c
  · have f0 : f = 0 := by
      apply Classical.byContradiction
      intro h; have := hn0 h; omega
    subst f0
    rw [if_pos h1]
    have st4 := v4.store 1 (.int .i64 21) (by decide)
    simp only [List.set_cons_succ, List.set_cons_zero] at st4
    have v5 := v4.put xr' (.int .i64 21)
    obtain ⟨H6, la, sb, lb, sm⟩ := finR (X4.put (Nat.le_refl _) [xr', .int .i64 21]) v5 (r4.beside (by omega) _)
    obtain ⟨H5, hH5⟩ : ∃ H5, H5 = H4.put H.next [xr', .int .i64 21] := ⟨_, rfl⟩
    rw [← hH5] at st4 la sb
    simp [L51, hN, la2]
    refine goT_of T3 ?_
    have sa' : sStore H3 2 (ptr H.next) (.agg #[xr', .int .i64 0]) = some H4 := sa
    simp [sa', sa, ld4, h1, st4, la, sb, lb]
    exact ⟨b', sm⟩
  · rw [if_neg h1]
    obtain ⟨H5, la, sb, lb, sm⟩ := finR X4 v4 r4
    simp [L51, hN, la2]
    refine goT_of T3 ?_
    by_cases f0 : f = 0
    · subst f0
      have sa' : sStore H3 2 (ptr H.next) (.agg #[xr', .int .i64 0]) = some H4 := sa
      have la' : H4.loadN ⟨H.next, 0, none⟩ 0 2 = some [xr', .int .i64 0] := la
      have sb' : sStore H4 2 (ptr (H.next + 1)) (.agg #[xr', .int .i64 0]) = some H5 := sb
      have lb' : H5.loadN ⟨H.next + 1, 0, none⟩ 0 2 = some [xr', .int .i64 0] := lb
      simp [sa', ld4, h1, la', sb', lb']
      exact ⟨b', sm⟩
    · simp [sa, ld4, f0, h1, la, sb, lb]
      exact ⟨b', sm⟩
end Go.Proofs.Ytpcgganldmmpoaa
