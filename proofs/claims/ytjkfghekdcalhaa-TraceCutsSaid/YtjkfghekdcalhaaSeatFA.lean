/-
  Chapter 27: the loops of a commit: what was written goes into a memory; what was put in is joined.
-/
import Derived.Test.YtjkfghekdcalhaaSeatF
namespace Go.Proofs.Ytjkfghekdcalhaa
open Go.Ot Go.RowKit
open R14 (Twos ci joinV addN ontoN HP add_T may)
set_option linter.unusedSimpArgs false
set_option linter.unusedVariables false
def InvW (HB : Heap) (r : Nat) (m : List Int) (yw : Value) (l : List (Int × Int)) (t0 : Tm) (k : Nat) (t : Tm) (H1 : Heap) : Prop :=
  ∃ i : Nat, i + k = l.length ∧ t 0 = t0 0 ∧ t 2 = t0 2 ∧ t 4 = t0 4 ∧ t 7 = .slice (some ⟨r, 0, none⟩) m.length 0 ∧ t 37 = yw ∧ t 38 = iv l.length ∧ t 39 = iv i ∧ Fr HB H1 r ∧ Vr H1 r 2 1 (ci (setM m (l.take i)))
theorem write_loop {HB : Heap} (wB : HB.WF) {r : Nat} {m : List Int} {yw : Value} {l : List (Int × Int)} (vr : Vr HB r 2 1 (ci m)) (hy : Own HB 111 2 l.length (c2 l) yw) (hyr : ∀ b, blkOf yw = some b → b ≠ r) (hb : ∀ c ∈ l, 0 ≤ c.1 ∧ c.1 < (m.length : Int)) (hl : l.length ≤ 100000)
    {Q : Post} {t : Tm} (t7 : t 7 = .slice (some ⟨r, 0, none⟩) m.length 0) (t37 : t 37 = yw) (t38 : t 38 = iv l.length) (t39 : t 39 = iv 0)
    (hE : ∀ (t' : Tm) (H1 : Heap), t' 0 = t 0 → t' 2 = t 2 → t' 4 = t 4 → t' 7 = t 7 → Fr HB H1 r → Vr H1 r 2 1 (ci (setM m l)) → Q (.exit 0) t' (rdy H1)) : wpA Try.prog (.loop L43_1) Q t (rdy HB) := by
  refine loop_at (InvW HB r m yw l t) l.length ?_ ?_
  · exact ⟨0, by omega, rfl, rfl, rfl, t7, t37, t38, t39, Fr.refl wB r, by simpa [setM] using vr⟩
  rintro k t1 H1 ⟨i, hik, u0, u2, u4, u7, u37, u38, u39, fr, v1⟩
  cases k with
  | zero =>
    have ei : i = l.length := by omega
    rw [ei, List.take_length] at v1
    simp [L43_1, u38, u39, ei]
    exact hE _ _ (by simp [u0]) (by simp [u2]) (by simp [u4]) (by simp [u7, t7]) fr v1
  | succ k =>
    have hi : i < l.length := by omega
    have hiI : (i : Int) < (l.length : Int) := by omega
    have e4 : IntKind.i64.wrap ((i : Int) + 1) = ((i + 1 : Nat) : Int) := by rw [w64 _ (by omega)]; omega
    obtain ⟨e, he⟩ : ∃ e, e = l[i] := ⟨_, rfl⟩
    obtain ⟨h0, h1⟩ := hb e (by rw [he]; exact List.getElem_mem hi)
    have hi2 : i < (rows2 l).length := by simpa [rows2] using hi
    have hy1 : Own H1 111 2 l.length (c2 l) yw := Own.fr wB hy (fun h => hyr r h rfl) fr
    obtain ⟨b, off, c, hyb, _, ldx, _⟩ := (own_rows2 hy1).at hi2
    have er : (rows2 l)[i] = [iv e.1, iv e.2] := by simp [rows2, he]
    have ln2 : (rows2 l).length = l.length := by simp [rows2]
    rw [er] at ldx
    rw [ln2] at hyb
    have u37' := u37.trans hyb
    obtain ⟨j, hj⟩ : ∃ j, j = e.1.toNat := ⟨_, rfl⟩
    have ej : e.1 = (j : Int) := by omega
    have hjm : j < m.length := by omega
    have hjmI : (j : Int) < (m.length : Int) := by omega
    have st := new_storeA fr.wf 111 2 [iv 0, iv 0] [iv e.1, iv e.2] rfl rfl (by decide)
    have VE : Vr (H1.new 111 2 [iv e.1, iv e.2]) H1.next 111 2 [iv e.1, iv e.2] := Vr.mk' fr.wf _ _ _
    have fr2 : Fr HB (H1.new 111 2 [iv e.1, iv e.2]) r := fr.new _ _ _
    have v2 := v1.new fr.wf 111 2 [iv e.1, iv e.2]
    obtain ⟨H2, hH2⟩ : ∃ H2, H2 = H1.new 111 2 [iv e.1, iv e.2] := ⟨_, rfl⟩
    obtain ⟨s, hs⟩ : ∃ s, s = H1.next := ⟨_, rfl⟩
    rw [← hH2, ← hs] at st VE
    rw [← hH2] at fr2 v2
    have f0 : H2.load ⟨s, 0, none⟩ = some (iv j) := by rw [← ej]; exact VE.load 0
    have f1 : H2.load ⟨s, 1, none⟩ = some (iv e.2) := VE.load 1
    have lset : (ci (setM m (l.take i))).set j (iv e.2) = ci (setM m (l.take (i + 1))) := by
      rw [List.take_succ_eq_append_getElem hi, setM_snoc, ← he, ← hj]; simp [ci, List.map_set]
    have sj := v2.store j (iv e.2) (by rw [R14.ci_len, setM_len]; exact hjm)
    rw [lset] at sj
    simp [L43_1, u38, u39, hi, hiI, u37', ldx, st, ← hs, f0, f1, u7, hjm, hjmI, sj, e4]
    exact ⟨k, by omega, i + 1, by omega, by simp [u0], by simp [u2], by simp [u4], by simp [u7], by simp [u37, ← hyb], by simp [u38], by simp, fr2.put _, v2.put _⟩
def InvI (HB : Heap) (lo hi ph : Nat) (ops now : List Int) (xo xn yi : Value) (l : List (Int × Int)) (t0 : Tm) (k : Nat) (t : Tm) (H1 : Heap) : Prop :=
  ∃ (i : Nat) (many : Int), i + k = l.length ∧ t 0 = t0 0 ∧ t 2 = t0 2 ∧ t 4 = t0 4 ∧ t 10 = ptr ph ∧ t 94 = yi ∧ t 95 = iv l.length ∧ t 96 = iv i ∧ H1.WF ∧ H1.base = HB.base ∧ HB.next ≤ H1.next ∧ (∀ b, b < HB.next → (b < lo ∨ hi ≤ b) → H1.blk b = HB.blk b) ∧ 0 ≤ many ∧ many ≤ i ∧
    HP H1 lo hi ph ops ((l.take i).foldl (fun now c => addN ops now c.1 c.2) now) many xo xn
theorem addN_len (ops now : List Int) (c n : Int) : (addN ops now c n).length = now.length := by unfold addN; split <;> simp
theorem adds_len (ops : List Int) : ∀ (l : List (Int × Int)) (now : List Int), (l.foldl (fun now c => addN ops now c.1 c.2) now).length = now.length
  | [], now => rfl
  | c :: l, now => by rw [List.foldl_cons, adds_len ops l, addN_len]
theorem add_loop {HB : Heap} (wB : HB.WF) {lo hi ph : Nat} {ops now : List Int} {xo xn : Value} (hp : HP HB lo hi ph ops now 0 xo xn) (hlen : now.length = ops.length) (hol : ops.length ≤ 1000) {yi : Value} {l : List (Int × Int)} (hy : Own HB 97 2 l.length (c2 l) yi)
    (hyi : ∀ b, blkOf yi = some b → b < lo ∨ hi ≤ b) (hhi : hi ≤ HB.next) (hl : l.length ≤ 100000) {Q : Post} {t : Tm} (t10 : t 10 = ptr ph) (t94 : t 94 = yi) (t95 : t 95 = iv l.length) (t96 : t 96 = iv 0)
    (hE : ∀ (t' : Tm) (H1 : Heap) (many : Int), t' 0 = t 0 → t' 2 = t 2 → t' 4 = t 4 → t' 10 = t 10 → H1.WF → H1.base = HB.base → HB.next ≤ H1.next → (∀ b, b < HB.next → (b < lo ∨ hi ≤ b) → H1.blk b = HB.blk b) →
      HP H1 lo hi ph ops (l.foldl (fun now c => addN ops now c.1 c.2) now) many xo xn → Q (.exit 2) t' (rdy H1)) : wpA Try.prog (.loop L43_2) Q t (rdy HB) := by
  refine loop_at (InvI HB lo hi ph ops now xo xn yi l t) l.length ?_ ?_
  · exact ⟨0, 0, by omega, rfl, rfl, rfl, t10, t94, t95, t96, wB, rfl, Nat.le_refl _, fun _ _ _ => rfl, by omega, by simp, by simpa using hp⟩
  rintro k t1 H1 ⟨i, many, hik, u0, u2, u4, u10, u94, u95, u96, w1, b1, n1, k1, m0, mi, h1⟩
  cases k with
  | zero =>
    have ei : i = l.length := by omega
    rw [ei, List.take_length] at h1
    simp [L43_2, u95, u96, ei]
    exact hE _ _ many (by simp [u0]) (by simp [u2]) (by simp [u4]) (by simp [u10, t10]) w1 b1 n1 k1 h1
  | succ k =>
    have hi' : i < l.length := by omega
    have hiI : (i : Int) < (l.length : Int) := by omega
    have e4 : IntKind.i64.wrap ((i : Int) + 1) = ((i + 1 : Nat) : Int) := by rw [w64 _ (by omega)]; omega
    obtain ⟨e, he⟩ : ∃ e, e = l[i] := ⟨_, rfl⟩
    have hi2 : i < (rows2 l).length := by simpa [rows2] using hi'
    have hy1 : Own H1 97 2 l.length (c2 l) yi := hy.keep (B_eq b1) (fun b hb => k1 b (hy.lt wB hb) (hyi b hb))
    obtain ⟨b, off, c, hyb, _, ldx, _⟩ := (own_rows2 hy1).at hi2
    have er : (rows2 l)[i] = [iv e.1, iv e.2] := by simp [rows2, he]
    have ln2 : (rows2 l).length = l.length := by simp [rows2]
    rw [er] at ldx
    rw [ln2] at hyb
    have u94' := u94.trans hyb
    have st := new_storeA w1 97 2 [iv 0, iv 0] [iv e.1, iv e.2] rfl rfl (by decide)
    have VE : Vr (H1.new 97 2 [iv e.1, iv e.2]) H1.next 97 2 [iv e.1, iv e.2] := Vr.mk' w1 _ _ _
    have on2 : On H1 (H1.new 97 2 [iv e.1, iv e.2]) := (On.refl w1).new _ _ _
    obtain ⟨H2, hH2⟩ : ∃ H2, H2 = H1.new 97 2 [iv e.1, iv e.2] := ⟨_, rfl⟩
    obtain ⟨s, hs⟩ : ∃ s, s = H1.next := ⟨_, rfl⟩
    rw [← hH2, ← hs] at st VE
    rw [← hH2] at on2
    have f0 : H2.load ⟨s, 0, none⟩ = some (iv e.1) := VE.load 0
    have f1 : H2.load ⟨s, 1, none⟩ = some (iv e.2) := VE.load 1
    have h2 := h1.frame on2.base (fun b hb1 hb2 => on2.keep b (by omega))
    obtain ⟨v, H3, aT, rfl, w3, b3, n3, k3, h3⟩ := add_T on2.wf h2 (by rw [adds_len]; exact hlen) e.1 e.2 ⟨⟨by omega, by omega⟩, by omega⟩ hol
    have tk : l.take (i + 1) = l.take i ++ [e] := by rw [List.take_succ_eq_append_getElem hi', he]
    have b31 : H3.base = HB.base := by rw [b3, on2.base, b1]
    have n31 : HB.next ≤ H3.next := by have := on2.next; omega
    have k31 : ∀ b, b < HB.next → (b < lo ∨ hi ≤ b) → H3.blk b = HB.blk b := fun b hb1 hb2 => by rw [k3 b hb2, on2.keep b (by omega), k1 b hb1 hb2]
    simp [L43_2, u95, u96, hi', hiI, u94', ldx, st, ← hs, f0, f1, u10]
    refine goT_of aT ?_
    simp [u96, e4]
    refine ⟨k, by omega, i + 1, _, by omega, by simp [u0], by simp [u2], by simp [u4], by simp [u10], by simp [u94, ← hyb], by simp [u95], by simp, w3, b31, n31, k31, ?_, ?_, by rw [tk, List.foldl_append]; exact h3⟩
    · split <;> omega
    · split <;> omega
end Go.Proofs.Ytjkfghekdcalhaa
