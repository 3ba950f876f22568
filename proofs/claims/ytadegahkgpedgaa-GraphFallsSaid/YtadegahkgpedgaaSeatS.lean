/-
  Chapter 23: GraphFalls.
-/
import Derived.Test.YtadegahkgpedgaaSeatR
namespace Go.Proofs.Ytadegahkgpedgaa
open Go.Ot Go.RowKit
set_option linter.unusedSimpArgs false
set_option linter.unusedVariables false
theorem opU_valid {L : List Ed} (h : Valid L) (room : Int) (o : Op) : Valid (opU L room o) := by
  unfold opU
  split
  · exact fun e he => h e (List.mem_filter.1 he).1
  · unfold addU
    split
    · rename_i hi
      intro e he
      rcases List.mem_append.1 he with h1 | h1
      · exact h e h1
      · rw [List.mem_singleton.1 h1]
        simp only [addI, Bool.and_eq_true, Bool.not_eq_true', decide_eq_false_iff_not] at hi
        simp only
        omega
    · exact h
theorem opU_len (L : List Ed) (room : Int) (o : Op) : (opU L room o).length ≤ L.length + 1 := by
  unfold opU
  split
  · exact Nat.le_succ_of_le (List.length_filter_le _ _)
  · unfold addU
    split <;> simp
/-- What stands while calls are done. -/
structure GA (H H1 : Heap) (p rb : Nat) (L : List Ed) (x : Value) : Prop where
  gr : GR H1 p 512 L x
  val : Valid L
  wf : H1.WF
  base : H1.base = H.base
  pn : H.next ≤ p
  keep : ∀ b, b < H.next → H1.blk b = H.blk b
  brb : H1.blk rb = some ⟨36, 2, rv 512 (.slice none 0 0)⟩
  rn : H.next ≤ rb
  rp : rb ≠ p
  xr : blkOf x ≠ some rb
  xn : ∀ b, blkOf x = some b → H.next ≤ b
def Inv1 (H : Heap) (y : Value) (l : List Op) (age : Int) (p rb : Nat) (k : Nat) (t : Tm) (H1 : Heap) : Prop :=
  ∃ i L x, i + k = l.length ∧ t 0 = y ∧ t 1 = iv age ∧ t 5 = ptr p ∧ t 7 = ptr rb ∧ t 9 = iv i ∧ L.length ≤ i ∧ GA H H1 p rb L x
theorem loop1 {H H1 : Heap} (hw : H.WF) {y : Value} {l : List Op} {age : Int} {p rb : Nat} {x : Value} (hy : Rws H 3 y (l.map Op.cells)) (hl : l.length ≤ 80) (hg : GA H H1 p rb [] x) {Q : Exit → Tm → Heap → Prop} {t : Tm}
    (t0 : t 0 = y) (t1 : t 1 = iv age) (t5 : t 5 = ptr p) (t7 : t 7 = ptr rb) (t9 : t 9 = iv 0)
    (hQ : ∀ tt H9 L x9, tt 1 = iv age → tt 5 = ptr p → L.length ≤ 80 → GA H H9 p rb L x9 → Q (.exit 0) tt (rdy H9)) : wpA Try.prog (.loop L4_1) Q t (rdy H1) := by
  refine loop_at (Inv1 H y l age p rb) l.length ?_ ?_
  · exact ⟨0, [], x, by omega, t0, t1, t5, t7, t9, by simp, hg⟩
  · rintro k tt H2 ⟨i, L, x2, hik, u0, u1, u5, u7, u9, hLi, g2⟩
    obtain ⟨ay, cy, hyl⟩ := hy.len
    rw [List.length_map] at hyl
    cases k with
    | zero =>
      have e1 : ¬ ((i : Int) < l.length) := by omega
      have hq := fun (t9 : Tm) (h1 : t9 1 = tt 1) (h5 : t9 5 = tt 5) => hQ t9 H2 L x2 (h1.trans u1) (h5.trans u5) (by omega) g2
      rw [hyl] at u0
      simp [L4_1, u9, u0, e1]
      exact hq _ (by simp) (by simp)
    | succ k =>
      have hil : i < l.length := by omega
      have e1 : ((i : Int) < l.length) := by omega
      have e4 : IntKind.i64.wrap ((i : Int) + 1) = ((i + 1 : Nat) : Int) := by rw [w64 _ (by omega)]; omega
      obtain ⟨iN, hiN⟩ : ∃ n : Nat, n = i + 1 := ⟨_, rfl⟩
      rw [← hiN] at e4
      have hy2 := hy.keep hw g2.base g2.keep
      obtain ⟨b, off, c2, hyb, _, hld, _⟩ := hy2.at (i := i) (by simpa using hil)
      rw [List.getElem_map] at hld
      rw [List.length_map] at hyb
      obtain ⟨o, ho⟩ : ∃ o, o = l[i] := ⟨_, rfl⟩
      rw [← ho] at hld
      have hrb : ¬ rb < H2.B := by
        have := hw.next_ge
        have := g2.rn
        rw [B_eq g2.base]; omega
      have ldr : H2.loadN ⟨rb, 0, none⟩ 0 2 = some (rv 512 (.slice none 0 0)) := by rw [loadN_at hrb g2.brb (by simp [rv])]; rfl
      obtain ⟨v, H3, hT, ⟨xr', ok, x3, L3, rfl, _, gr3, hp3, _, _, _, aft⟩⟩ := one_T (U := []) g2.wf g2.gr (xr := .slice none 0 0) (.inl ⟨rfl, rfl⟩) (fun b hb => (by cases hb)) o (by omega) (by simp)
      have hl3 := hp3.length_eq
      have hlo := opU_len L 512 o
      have hpn := g2.wf.lt g2.gr.bp
      have g3 : GA H H3 p rb L3 x3 := by
        have hrbn := g2.wf.lt g2.brb
        refine ⟨gr3, fun e he => opU_valid g2.val 512 o e (hp3.mem_iff.1 he), aft.wf, aft.base.trans g2.base, g2.pn, fun b hb => ?_, ?_, g2.rn, g2.rp, fun h => ?_, fun b hb => ?_⟩
        · have h1 := g2.pn
          rw [aft.keep b (by omega) (by omega) (fun hx => by have := g2.xn b hx; omega), g2.keep b hb]
        · rw [aft.keep rb hrbn g2.rp g2.xr]; exact g2.brb
        · rcases aft.new rb h with h4 | h4
          · exact g2.xr h4
          · omega
        · rcases aft.new b hb with h4 | h4
          · exact g2.xn b h4
          · have := g2.pn; omega
      have u0' := u0
      rw [hyb] at u0
      simp [L4_1, u9, u0, e1, hil, u7, ldr, hld, u5]
      refine goT_of hT ?_
      simp [u9, e4]
      exact ⟨k, by omega, iN, L3, x3, by omega, by simp [u0'], by simp [u1], by simp [u5], by simp [u7], by simp, by omega, g3⟩
theorem falls_T {H : Heap} (hw : H.WF) {y : Value} {l : List Op} (hy : Rws H 3 y (l.map Op.cells)) (age : Int) : ∃ v H', T Try.prog 4 [y, iv age] H v H' ∧ v = .bool true := by
  refine T_by hm light4 ?_
  obtain ⟨ay, cy, hyl⟩ := hy.len
  rw [List.length_map] at hyl
  by_cases hl : 80 < l.length
  · rw [hyl]; simp [L4, hl]
  obtain ⟨H1, T1, g1, w1, b1, n1, k1⟩ := new_T hw (room := 512) (by omega)
  obtain ⟨H2, T2, on2⟩ := rnew_T w1 512
  rw [if_neg (by decide), if_neg (by decide)] at T2
  have st := new_storeA on2.wf 36 2 [iv 0, .slice none 0 0] (rv 512 (.slice none 0 0)) rfl rfl (by decide)
  obtain ⟨H3, hH3⟩ : ∃ H3, H3 = H2.new 36 2 (rv 512 (.slice none 0 0)) := ⟨_, rfl⟩
  rw [← hH3] at st
  have on3 : On H1 H3 := by rw [hH3]; exact on2.new _ _ _
  have hn2 := on2.next
  have g3 : GA H H3 H.next H2.next [] (.slice none 0 0) := by
    refine ⟨g1.keep w1 on3.base on3.keep, fun e he => (by cases he), on3.wf, on3.base.trans b1, Nat.le_refl _, fun b hb => ?_, by rw [hH3]; simp, by omega, by omega, by simp, fun b hb => (by cases hb)⟩
    rw [on3.keep b (by omega), k1 b hb]
  rw [hyl]
  simp [L4, hl]
  refine goT_of T1 ?_
  simp
  refine goT_of T2 ?_
  simp [st]
  rw [← hyl]
  refine loop1 (age := age) hw hy (by omega) g3 (by simp [hyl]) (by simp) (by simp) (by simp) (by simp) ?_
  intro t4 H4 L x4 u1 u5 hL g4
  obtain ⟨o, H5, T5, f, row5, hv, hfl⟩ := fallG_T g4.wf g4.gr (fun e he => by have := g4.val e he; omega) (fun e he => (g4.val e he).2) (by omega) age
  have g5 := g4.gr.keep g4.wf row5.base row5.keep
  obtain ⟨ey, H6, T6, row6⟩ := edges_T row5.wf g5
  have g6 := g5.keep row5.wf row6.base row6.keep
  have io : Ints H5 .i64 o f := row5.own.ints
  have io6 : Ints H6 .i64 o f := io.keep row5.wf row6.base row6.keep
  have he6 : Rws H6 2 ey (L.map edv) := Own.rws (ety := 46) (by intro r' hr'; obtain ⟨e, _, rfl⟩ := List.mem_map.1 hr'; rfl) (by rw [List.length_map]; exact row6.own)
  have hpos : 0 < f.length := by
    rcases f with - | ⟨_, _⟩
    · have := hv.hd; simp at this
    · simp
  obtain ⟨b5, off5, c5, hof, ld5⟩ := io.at hpos
  have hf0 : f[0] = age := by
    have := hv.hd
    rw [List.getElem?_eq_getElem hpos] at this
    simpa using this
  rw [hf0] at ld5
  have hne : ¬ f.length = 0 := by omega
  have gi : GI H6 H.next f o L x4 := by
    refine ⟨g6, row6.wf, io6, fun b hb => ?_⟩
    have h1 := row5.new b hb
    have h2 := row5.own.lt row5.wf hb
    have h3 := g4.wf.lt g4.gr.bp
    refine ⟨Nat.lt_of_lt_of_le h2 row6.next, by omega, fun h => ?_⟩
    have := g4.gr.own.lt g4.wf h
    omega
  have ld5' : H5.load ⟨b5, off5, none⟩ = some (iv age) := ld5
  have hof' : o = .slice (some ⟨b5, off5, none⟩) f.length c5 := hof
  simp [u5, u1]
  refine goT_of T5 ?_
  rw [hof']
  simp [hne, hpos, ld5', u1]
  rw [← hof']
  simp [u5]
  refine goT_of T6 ?_
  simp
  refine loop3 (age := age) io6 he6 (by omega) (by omega) hv (by simp [u1]) (by simp) (by simp) (by simp) ?_
  intro t7 a1 a5 a10 a11
  simp
  refine loop4 (age := age) io6 he6 (by omega) (by omega) hv (by simp [a10]) (by simp [a11]) (by simp) ?_
  intro t8 c5' c10
  simp
  refine loop5 gi g4.val (by omega) (by simp [c5', a5, u5]) (by simp [c10]) (by simp) ?_
  intro t9 H9 L9 x9 d5 d10 gi9 hV9 hno9
  simp
  refine loop6 gi9 hV9 hno9 (by omega) (by simp [d5]) (by simp [d10]) (by simp) ?_
  intro t10 H10 w10
  simp
  refine goT_of (alive_T H10) ?_
  simp
end Go.Proofs.Ytadegahkgpedgaa
