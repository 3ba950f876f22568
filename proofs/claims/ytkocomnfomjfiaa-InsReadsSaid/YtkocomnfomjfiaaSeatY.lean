/-
  Chapter 8: a text taken up, by the program: an instruction's parts.
-/
import Derived.Test.YtkocomnfomjfiaaSeatX
namespace Go.Proofs.Ytkocomnfomjfiaa
open Go.Ot Go.RowKit
set_option linter.unusedSimpArgs false
set_option linter.unusedVariables false
/-- What the parts of a round leave alone. -/
structure Kq (t t' : Tm) : Prop where
  k0 : t' 0 = t 0
  k1 : t' 1 = t 1
  k6 : t' 6 = t 6
  k8 : t' 8 = t 8
  k9 : t' 9 = t 9
  k10 : t' 10 = t 10
  k22 : t' 22 = t 22
  k23 : t' 23 = t 23
theorem Kq.refl (t : Tm) : Kq t t := ⟨rfl, rfl, rfl, rfl, rfl, rfl, rfl, rfl⟩
theorem Kq.trans {t t1 t2 : Tm} (h : Kq t t1) (g : Kq t1 t2) : Kq t t2 := ⟨g.k0.trans h.k0, g.k1.trans h.k1, g.k6.trans h.k6, g.k8.trans h.k8, g.k9.trans h.k9, g.k10.trans h.k10, g.k22.trans h.k22, g.k23.trans h.k23⟩
theorem Kq.put {t t' : Tm} (h : Kq t t') (d : Nat) (v : Value) (hd : d ≠ 0 ∧ d ≠ 1 ∧ d ≠ 6 ∧ d ≠ 8 ∧ d ≠ 9 ∧ d ≠ 10 ∧ d ≠ 22 ∧ d ≠ 23) : Kq t (Go.Ot.put t' (some d) v) := by
  obtain ⟨d0, d1, d6, d8, d9, d10, d22, d23⟩ := hd
  exact ⟨by simp [h.k0, d0.symm], by simp [h.k1, d1.symm], by simp [h.k6, d6.symm], by simp [h.k8, d8.symm], by simp [h.k9, d9.symm], by simp [h.k10, d10.symm], by simp [h.k22, d22.symm], by simp [h.k23, d23.symm]⟩
/-- All but the reader's block and the instruction's variable stands. -/
structure Ow (G G' : Heap) (p px : Nat) : Prop where
  base : G'.base = G.base
  next : G.next ≤ G'.next
  old : ∀ q, q < G.next → q ≠ p → q ≠ px → G'.blk q = G.blk q
theorem Ow.refl (G : Heap) (p px : Nat) : Ow G G p px := ⟨rfl, Nat.le_refl _, fun _ _ _ _ => rfl⟩
theorem Ow.trans {G G1 G2 : Heap} {p px : Nat} (h : Ow G G1 p px) (g : Ow G1 G2 p px) : Ow G G2 p px :=
  ⟨g.base.trans h.base, Nat.le_trans h.next g.next, fun q h1 h2 h3 => (g.old q (Nat.lt_of_lt_of_le h1 h.next) h2 h3).trans (h.old q h1 h2 h3)⟩
theorem Ow.vr {G G' : Heap} {p px : Nat} (h : Ow G G' p px) (hw : G.WF) {q ty n : Nat} {cs : List Value} (v : Vr G q ty n cs) (h1 : q ≠ p) (h2 : q ≠ px) : Vr G' q ty n cs := v.keep h.base (h.old q (hw.lt v.bq) h1 h2)
theorem it_w {H G : Heap} {p px pt : Nat} {xr : Value} {b : List Nat} {s : St} {has : Bool} {set : In → Int → In} {j : Nat} {cs : List Value} (hj : j < 3) (hset : ∀ x v, rowI (set x v) = (rowI x).set (2 + j) (iv v))
    (R : Rn H G p xr b s.2.1 s.2.2) (hpx : H.next ≤ px) (V : Vr G px 25 6 (rowI s.1)) (W : Vr G pt 76 2 cs) (hlt : pt ≠ p) (hld : G.loadN ⟨pt, j * 2, none⟩ 0 2 = some [.bool has, .pointer (some ⟨px, 2 + j, none⟩)])
    {t : Tm} (t6 : t 6 = ptr p) (t66 : t 66 = sl pt 3) (t67 : t 67 = iv 3) (t68 : t 68 = iv (j : Nat)) {Q : Post}
    (hQ : ∀ (t' : Tm) (G' : Heap), Kq t t' → t' 66 = sl pt 3 → t' 67 = iv 3 → t' 68 = iv ((j + 1 : Nat) : Int) → Rn H G' p xr b (stU 256 has set s).2.1 (stU 256 has set s).2.2 → Vr G' px 25 6 (rowI (stU 256 has set s).1) → Ow G G' p px → Q .normal t' (rdy G')) : wpA Try.prog L22_1 Q t (rdy G) := by
  obtain ⟨x, l, f⟩ := s
  simp only at R V hQ
  have e1 : IntKind.i64.wrap ((j : Int) + 1) = ((j + 1 : Nat) : Int) := by rw [w64 _ (by omega)]; omega
  obtain ⟨j1, hj1⟩ : ∃ j1, j1 = j + 1 := ⟨_, rfl⟩
  rw [← hj1] at e1 hQ
  have hj3 : (j : Int) < 3 := by omega
  have hwG := R.wf
  have hpn := hwG.lt V.bq
  have hpp : p ≠ px := by have := R.hp; omega
  have st := new_storeA hwG 76 2 [.bool false, .pointer none] [.bool has, .pointer (some ⟨px, 2 + j, none⟩)] rfl rfl (by decide)
  obtain ⟨G1, hG1⟩ : ∃ G1, G1 = G.new 76 2 [.bool has, .pointer (some ⟨px, 2 + j, none⟩)] := ⟨_, rfl⟩
  have R1 : Rn H G1 p xr b l f := by rw [hG1]; exact R.new _ _ _
  have V1 : Vr G1 px 25 6 (rowI x) := by rw [hG1]; exact V.new hwG _ _ _
  have U1 : Vr G1 G.next 76 2 [.bool has, .pointer (some ⟨px, 2 + j, none⟩)] := by rw [hG1]; exact Vr.mk' hwG _ _ _
  have O1 : Ow G G1 p px := ⟨by rw [hG1]; rfl, by rw [hG1]; simp, fun q h1 _ _ => by rw [hG1]; simp [show q ≠ G.next by omega]⟩
  rw [← hG1] at st
  have lu := U1.load
  have lu0 : G1.load ⟨G.next, 0, none⟩ = some (.bool has) := lu 0
  have lu1 : G1.load ⟨G.next, 1, none⟩ = some (.pointer (some ⟨px, 2 + j, none⟩)) := lu 1
  have hjl : j < 3 := hj
  cases has with
  | false =>
    simp [L22_1, t66, t67, t68, hj3, hj, hld, st, lu0, e1]
    refine hQ _ G1 ?_ (by simp [t66]) (by simp [t67]) (by simp) R1 V1 O1
    repeat (refine Kq.put ?_ _ _ (by decide))
    exact Kq.refl t
  | true =>
    have T2 := rsmall_T R1.rs
    have hpU : G.next ≠ p := by have := R.hp; have := R.next; omega
    have R2 := R1.step (rdP 256 l f).2.2 (rdP_suf 256 l f)
    have V2 := V1.beside hpp.symm (rsC xr b (rdP 256 l f).2.1 (rdP 256 l f).2.2)
    have U2 := U1.beside hpU (rsC xr b (rdP 256 l f).2.1 (rdP 256 l f).2.2)
    have lu2 : (G1.put p (rsC xr b (rdP 256 l f).2.1 (rdP 256 l f).2.2)).load ⟨G.next, 1, none⟩ = some (.pointer (some ⟨px, 2 + j, none⟩)) := U2.load 1
    have st3 := V2.store (2 + j) (iv ((rdP 256 l f).1 : Int)) (by simp [rowI]; omega)
    have O2 : Ow G1 (G1.put p (rsC xr b (rdP 256 l f).2.1 (rdP 256 l f).2.2)) p px := ⟨by simp, by simp, fun q _ h2 _ => by simp [h2]⟩
    have hst : stU 256 true set (x, l, f) = (set x ((rdP 256 l f).1 : Int), (rdP 256 l f).2) := rfl
    rw [hst] at hQ
    obtain ⟨v, hv⟩ : ∃ v : Int, v = ((rdP 256 l f).1 : Int) := ⟨_, rfl⟩
    rw [← hv] at T2 st3 hQ
    simp only at hQ
    obtain ⟨G2, hG2⟩ : ∃ G2, G2 = G1.put p (rsC xr b (rdP 256 l f).2.1 (rdP 256 l f).2.2) := ⟨_, rfl⟩
    rw [← hG2] at T2 R2 V2 U2 lu2 st3 O2
    have R3 := R2.put hpx ((rowI x).set (2 + j) (iv v))
    have V3 := V2.put ((rowI x).set (2 + j) (iv v))
    rw [← hset] at R3 V3 st3
    have O3 : Ow G2 (G2.put px (rowI (set x v))) p px := ⟨by simp, by simp, fun q _ _ h3 => by simp [h3]⟩
    simp [L22_1, t66, t67, t68, hj3, hj, hld, st, lu0, lu1]
    refine goT_of (by rw [t6]; exact T2) ?_
    simp [lu2, st3, t68, e1]
    refine hQ _ (G2.put px (rowI (set x v))) ?_ (by simp [t66]) (by simp [t67]) (by simp) R3 V3 (O1.trans (O2.trans O3))
    repeat (refine Kq.put ?_ _ _ (by decide))
    exact Kq.refl t
def tabC (h : Sh) (px : Nat) : List Value := [.bool h.a, .pointer (some ⟨px, 2, none⟩), .bool h.b, .pointer (some ⟨px, 3, none⟩), .bool (h.c || h.cell), .pointer (some ⟨px, 4, none⟩)]
def InvIt (H G : Heap) (p px pt : Nat) (xr : Value) (b : List Nat) (h : Sh) (s0 : St) (t0 : Tm) (k : Nat) (t : Tm) (G1 : Heap) : Prop :=
  ∃ (j : Nat) (s : St), j + k = 3 ∧ s = it3 256 h j s0 ∧ Rn H G1 p xr b s.2.1 s.2.2 ∧ Vr G1 px 25 6 (rowI s.1) ∧ Ow G G1 p px ∧ Kq t0 t ∧ t 66 = sl pt 3 ∧ t 67 = iv 3 ∧ t 68 = iv (j : Nat)
theorem its_w {H G : Heap} {p px pt : Nat} {xr : Value} {b : List Nat} {s0 : St} {h : Sh} (R : Rn H G p xr b s0.2.1 s0.2.2) (hpx : H.next ≤ px) (V : Vr G px 25 6 (rowI s0.1)) (W : Vr G pt 76 2 (tabC h px)) (hlt : pt ≠ p) (hlx : pt ≠ px)
    {t : Tm} (t6 : t 6 = ptr p) (t66 : t 66 = sl pt 3) (t67 : t 67 = iv 3) (t68 : t 68 = iv 0) {Q : Post}
    (hQ : ∀ (t' : Tm) (G' : Heap), Kq t t' → Rn H G' p xr b (it3 256 h 3 s0).2.1 (it3 256 h 3 s0).2.2 → Vr G' px 25 6 (rowI (it3 256 h 3 s0).1) → Ow G G' p px → Q (.exit 2) t' (rdy G')) : wpA Try.prog (.loop L22_1) Q t (rdy G) := by
  refine loop_at (InvIt H G p px pt xr b h s0 t) 3 ?_ ?_
  · exact ⟨0, s0, rfl, rfl, R, V, Ow.refl _ _ _, Kq.refl t, t66, t67, t68⟩
  · rintro k t1 G1 ⟨j, s, hjk, hs, R1, V1, O1, K1, u66, u67, u68⟩
    have hwG := R.wf
    have W1 := O1.vr hwG W hlt hlx
    cases k with
    | zero =>
      have ej : j = 3 := by omega
      subst ej
      subst hs
      simp [L22_1, u67, u68]
      exact hQ _ G1 (K1.put _ _ (by decide)) R1 V1 O1
    | succ k =>
      have ld : ∀ i, i < 3 → G1.loadN ⟨pt, i * 2, none⟩ 0 2 = some (((tabC h px).drop (i * 2)).take 2) := fun i hi => by
        rw [loadN_at W1.hq W1.bq (by simp [tabC]; omega)]
        simp
      have fin : ∀ (has : Bool) (set : In → Int → In), stU 256 has set s = it3 256 h (j + 1) s0 → (∀ x v, rowI (set x v) = (rowI x).set (2 + j) (iv v)) → ((tabC h px).drop (j * 2)).take 2 = [.bool has, .pointer (some ⟨px, 2 + j, none⟩)] → j < 3 →
          wpA Try.prog L22_1 (thenA (fun t' H' => ∃ m, m < k + 1 ∧ InvIt H G p px pt xr b h s0 t m t' H') Q) t1 (rdy G1) := by
        intro has set h1 h2 h3 hj
        refine it_w (set := set) hj h2 R1 hpx V1 W1 hlt (by rw [ld j hj, h3]) (by rw [K1.k6]; exact t6) u66 u67 u68 (fun t' G' K2 g66 g67 g68 R2 V2 O2 => ?_)
        rw [thenA_normal]
        exact ⟨k, Nat.lt_succ_self k, j + 1, _, by omega, h1, R2, V2, O1.trans O2, K1.trans K2, g66, g67, g68⟩
      have hj : j = 0 ∨ j = 1 ∨ j = 2 := by omega
      rcases hj with rfl | rfl | rfl
      · exact fin h.a setA (by rw [hs]; rfl) (fun _ _ => rfl) rfl (by omega)
      · exact fin h.b setB (by rw [hs]; rfl) (fun _ _ => rfl) rfl (by omega)
      · exact fin (h.c || h.cell) setC (by rw [hs]; rfl) (fun _ _ => rfl) rfl (by omega)
def A22 (i : Nat) : LCode := match L22_2 with
  | .seq a (.seq b (.seq (.block _ (.seq c1 (.seq c2 (.seq c3 (.seq c4 (.seq c5 (.seq c6 (.seq c7 c8)))))))) d)) =>
    match i with | 0 => a | 1 => b | 2 => c1 | 3 => c2 | 4 => c3 | 5 => c4 | 6 => c5 | 7 => c6 | 8 => c7 | 9 => c8 | _ => d
  | _ => .skip
theorem L22_2_eq : L22_2 = .seq (A22 0) (.seq (A22 1) (.seq (.block 1 (.seq (A22 2) (.seq (A22 3) (.seq (A22 4) (.seq (A22 5) (.seq (A22 6) (.seq (A22 7) (.seq (A22 8) (A22 9))))))))) (A22 10))) := rfl
/-- The table of parts and the parts. -/
theorem tab_w {H G : Heap} {p px ps : Nat} {xr : Value} {b : List Nat} {s0 : St} {h : Sh} (R : Rn H G p xr b s0.2.1 s0.2.2) (hpx : H.next ≤ px) (V : Vr G px 25 6 (rowI s0.1)) (S : Vr G ps 53 8 (rowS h))
    {t : Tm} (t6 : t 6 = ptr p) (t9 : t 9 = ptr px) (t10 : t 10 = ptr ps) {Q : Post}
    (hQ : ∀ (t' : Tm) (G' : Heap), Kq t t' → Rn H G' p xr b (it3 256 h 3 s0).2.1 (it3 256 h 3 s0).2.2 → Vr G' px 25 6 (rowI (it3 256 h 3 s0).1) → Ow G G' p px → Q .normal t' (rdy G')) : wpA Try.prog (A22 7) Q t (rdy G) := by
  have ls := S.load
  simp only [rowS] at ls
  have hwG := R.wf
  have hpn := hwG.lt V.bq
  have hpp := R.hp
  have hnn := R.next
  have z6 : zerosA [.bool false, .pointer none] 6 = [.bool false, .pointer none, .bool false, .pointer none, .bool false, .pointer none] := rfl
  have fin : ∀ (t1 : Tm), Kq t t1 → t1 66 = sl G.next 3 → t1 67 = iv 3 → t1 68 = iv 0 → wpA Try.prog (.loop L22_1) (blockA 2 Q) t1 (rdy (G.new 76 2 (tabC h px))) := by
    intro t1 K1 u66 u67 u68
    refine its_w (R.new _ _ _) hpx (V.new hwG _ _ _) (Vr.mk' hwG _ _ _) (by omega) (by omega) (by rw [K1.k6]; exact t6) u66 u67 u68 (fun t' G' K2 R2 V2 O2 => ?_)
    simp
    exact hQ t' G' (K1.trans K2) R2 V2 ((⟨rfl, by simp, fun q h1 _ _ => by simp [show q ≠ G.next by omega]⟩ : Ow G (G.new 76 2 (tabC h px)) p px).trans O2)
  cases hc : h.c with
  | false =>
    have e : tabC h px = [.bool h.a, .pointer (some ⟨px, 2, none⟩), .bool h.b, .pointer (some ⟨px, 3, none⟩), .bool h.cell, .pointer (some ⟨px, 4, none⟩)] := by simp [tabC, hc]
    rw [e] at fin
    simp [A22, L22_2, t9, t10, ls, hc, z6]
    refine fin _ ?_ (by simp) (by simp) (by simp)
    repeat (refine Kq.put ?_ _ _ (by decide))
    exact Kq.refl t
  | true =>
    have e : tabC h px = [.bool h.a, .pointer (some ⟨px, 2, none⟩), .bool h.b, .pointer (some ⟨px, 3, none⟩), .bool true, .pointer (some ⟨px, 4, none⟩)] := by simp [tabC, hc]
    rw [e] at fin
    simp [A22, L22_2, t9, t10, ls, hc, z6]
    refine fin _ ?_ (by simp) (by simp) (by simp)
    repeat (refine Kq.put ?_ _ _ (by decide))
    exact Kq.refl t
end Go.Proofs.Ytkocomnfomjfiaa
