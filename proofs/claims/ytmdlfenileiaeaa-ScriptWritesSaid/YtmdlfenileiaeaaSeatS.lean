/-
  Chapter 25: the document's reader: an error, blanks, a byte, a number.
-/
import Derived.Test.YtmdlfenileiaeaaSeatR
namespace Go.Proofs.Ytmdlfenileiaeaa
open Go.Ot Go.RowKit
set_option linter.unusedSimpArgs false
set_option linter.unusedVariables false
abbrev pcs (s : ByteArray) (a e w : Int) : List Value := [.string s, iv a, iv e, iv w]
abbrev pv (s : ByteArray) (a e w : Int) : Value := .agg #[.string s, iv a, iv e, iv w]
/-- A reading's variable, and the answer's. -/
structure TwoV (H G : Heap) (p o : Nat) (s : ByteArray) (a e w : Int) : Prop where
  on : On H G
  vp : Vr G p 71 4 (pcs s a e w)
  vo : ∃ c2, Vr G o 71 4 c2 ∧ c2.length = 4
  np : H.next ≤ p
  no : H.next ≤ o
  ne : p ≠ o
theorem TwoV.mk' {H : Heap} (hw : H.WF) (s : ByteArray) (a e w : Int) : TwoV H ((H.new 71 4 (pcs s a e w)).new 71 4 (pcs ByteArray.empty 0 0 0)) H.next (H.next + 1) s a e w := by
  have on1 : On H (H.new 71 4 (pcs s a e w)) := (On.refl hw).new _ _ _
  exact ⟨on1.new _ _ _, (Vr.mk' hw 71 4 (pcs s a e w)).new on1.wf 71 4 _, ⟨_, Vr.mk' on1.wf 71 4 _, rfl⟩, Nat.le_refl _, by omega, by omega⟩
section
variable {H G : Heap} {p o : Nat} {s : ByteArray} {a e w : Int} (h : TwoV H G p o s a e w)
include h
theorem TwoV.l0 : G.load ⟨p, 0, none⟩ = some (.string s) := h.vp.load 0
theorem TwoV.l1 : G.load ⟨p, 1, none⟩ = some (iv a) := h.vp.load 1
theorem TwoV.l2 : G.load ⟨p, 2, none⟩ = some (iv e) := h.vp.load 2
theorem TwoV.l3 : G.load ⟨p, 3, none⟩ = some (iv w) := h.vp.load 3
theorem TwoV.lA : G.loadN ⟨p, 0, none⟩ 0 4 = some (pcs s a e w) := h.vp.loadA rfl
theorem TwoV.put (a' e' w' : Int) : TwoV H (G.put p (pcs s a' e' w')) p o s a' e' w' := by
  obtain ⟨c2, v2, l2⟩ := h.vo
  exact ⟨h.on.put h.np _, h.vp.put _, ⟨c2, v2.beside h.ne.symm _, l2⟩, h.np, h.no, h.ne⟩
theorem TwoV.s1 (a' : Int) : G.store ⟨p, 1, none⟩ (iv a') = some (G.put p (pcs s a' e w)) := by rw [h.vp.store 1 _ (by simp)]; rfl
theorem TwoV.s2 (e' : Int) : G.store ⟨p, 2, none⟩ (iv e') = some (G.put p (pcs s a e' w)) := by rw [h.vp.store 2 _ (by simp)]; rfl
theorem TwoV.s3 (w' : Int) : G.store ⟨p, 3, none⟩ (iv w') = some (G.put p (pcs s a e w')) := by rw [h.vp.store 3 _ (by simp)]; rfl
theorem TwoV.sA (a' e' w' : Int) : sStore G 4 (ptr p) (.agg (pcs s a' e' w').toArray) = some (G.put p (pcs s a' e' w')) := h.vp.storeA (by decide) _ rfl rfl
theorem TwoV.out (s' : ByteArray) (a' e' w' : Int) : sStore G 4 (ptr o) (.agg (pcs s' a' e' w').toArray) = some (G.put o (pcs s' a' e' w')) ∧ (G.put o (pcs s' a' e' w')).loadN ⟨o, 0, none⟩ 0 4 = some (pcs s' a' e' w') ∧ On H (G.put o (pcs s' a' e' w')) := by
  obtain ⟨c2, v2, l2⟩ := h.vo
  exact ⟨v2.storeA (by decide) _ rfl l2, (v2.put _).loadA rfl, h.on.put h.no _⟩
end
theorem fail_T {H : Heap} (hw : H.WF) (s : ByteArray) (a e w : Int) : T Try.prog 26 [pv s a 0 0, iv e, iv w] H (pv s a e w) H := by
  refine T_seen hm light26 rfl ?_
  have V := TwoV.mk' hw s a 0 0
  obtain ⟨G, hG⟩ : ∃ G, G = (H.new 71 4 (pcs s a 0 0)).new 71 4 (pcs ByteArray.empty 0 0 0) := ⟨_, rfl⟩
  obtain ⟨o, ho⟩ : ∃ o, o = H.next + 1 := ⟨_, rfl⟩
  rw [← hG, ← ho] at V
  have V2 := (V.put a e 0)
  have V3 := (V2.put a e w)
  have s2 := V.s2 e
  have s3 := V2.s3 w
  obtain ⟨q1, q2, q3⟩ := V3.out s a e w
  have l2 := V.l2
  have lA := V3.lA
  simp [L26, ← hG, ← ho, l2, s2, s3, lA, q1, q2]
  intro b hb
  simpa using q3.keep b hb
def InvBl (H : Heap) (s : ByteArray) (p o : Nat) (a : Nat) (e w : Int) (k : Nat) (t : Tm) (H1 : Heap) : Prop :=
  ∃ i : Nat, i + k = (bts s).length ∧ t 1 = ptr p ∧ t 2 = ptr o ∧ run isB (bts s) i = run isB (bts s) a ∧ TwoV H H1 p o s i e w
theorem blanks_T {H : Heap} (hw : H.WF) (s : ByteArray) {a : Nat} (ha : a ≤ (bts s).length) (hl : (bts s).length ≤ 100000) (e w : Int) : T Try.prog 43 [pv s a e w] H (pv s (run isB (bts s) a) e w) H := by
  obtain ⟨RR, hRR⟩ : ∃ R, R = pv s (run isB (bts s) a) e w := ⟨_, rfl⟩
  rw [← hRR]
  refine T_seen hm light43 (by rw [hRR]; rfl) ?_
  have V := TwoV.mk' hw s a e w
  obtain ⟨G, hG⟩ : ∃ G, G = (H.new 71 4 (pcs s a e w)).new 71 4 (pcs ByteArray.empty 0 0 0) := ⟨_, rfl⟩
  obtain ⟨o, ho⟩ : ∃ o, o = H.next + 1 := ⟨_, rfl⟩
  rw [← hG, ← ho] at V
  simp [L43, ← hG, ← ho]
  refine loop_at (InvBl H s H.next o a e w) ((bts s).length - a) ⟨a, by omega, by simp, by simp, rfl, V⟩ ?_
  rintro k t H1 ⟨i, hik, t1, t2, hrun, V⟩
  have l0 := V.l0
  have l1 := V.l1
  have stop : run isB (bts s) i = i → RR = pv s i e w := fun h => by rw [hRR, ← hrun, h]
  have lA := V.lA
  obtain ⟨q1, q2, q3⟩ := V.out s i e w
  by_cases hi : i < (bts s).length
  · have e1 : (i : Int) < (s.size : Int) := by rw [len_str]; omega
    have e1' : i < s.size := by rw [← bts_len]; exact hi
    have ix := idx_str s hi
    by_cases hb : isB (bts s)[i] = true
    · have e4 : IntKind.i64.wrap ((i : Int) + 1) = ((i + 1 : Nat) : Int) := by rw [w64 _ (by omega)]; omega
      obtain ⟨iN, hiN⟩ : ∃ n, n = i + 1 := ⟨_, rfl⟩
      rw [← hiN] at e4
      have hr2 := run_yes hi hb
      have s1 := V.s1 (iN : Int)
      have V' := V.put (iN : Int) e w
      simp only [isB, Bool.or_eq_true, beq_iff_eq] at hb
      obtain ⟨c, hc⟩ : ∃ c, c = (bts s)[i] := ⟨_, rfl⟩
      rw [← hc] at hb ix
      rcases hb with hb | hb
      · subst hb
        simp [L43_1, t1, l0, l1, e1, e1', ix, e4, s1]
        exact ⟨k - 1, by omega, iN, by omega, by simp [t1], by simp [t2], by rw [hiN, ← hr2, hrun], V'⟩
      · subst hb
        simp [L43_1, t1, l0, l1, e1, e1', ix, e4, s1]
        exact ⟨k - 1, by omega, iN, by omega, by simp [t1], by simp [t2], by rw [hiN, ← hr2, hrun], V'⟩
    · have hb' : isB (bts s)[i] = false := by simpa using hb
      rw [stop (run_no hi hb')]
      obtain ⟨c, hc⟩ : ∃ c, c = (bts s)[i] := ⟨_, rfl⟩
      rw [← hc] at hb' ix
      have n1 : ((c : Int) == 32) = false := by simp [isB] at hb' ⊢; omega
      have n2 : ((c : Int) == 10) = false := by simp [isB] at hb' ⊢; omega
      simp [L43_1, t1, t2, l0, l1, e1, e1', ix, n1, n2, lA, q1, q2]
      exact q3.keep
  · have e1 : ¬ (i : Int) < (s.size : Int) := by rw [len_str]; omega
    have e1' : ¬ i < s.size := by rw [← bts_len]; exact hi
    rw [stop (run_stop (by omega))]
    simp [L43_1, t1, t2, l0, l1, e1, e1', lA, q1, q2]
    exact q3.keep
theorem is_T {H : Heap} (hw : H.WF) (s : ByteArray) (a : Nat) (e w : Int) (c : Nat) (hc : c ≠ 0) : T Try.prog 44 [pv s a e w, bv c] H (.bool (decide ((bts s).getD a 0 = c))) H := by
  obtain ⟨B, hB⟩ : ∃ B, B = decide ((bts s).getD a 0 = c) := ⟨_, rfl⟩
  rw [← hB]
  refine T_seen hm light44 rfl ?_
  have V : Vr (H.new 71 4 (pcs s a e w)) H.next 71 4 (pcs s a e w) := Vr.mk' hw _ _ _
  have on : On H (H.new 71 4 (pcs s a e w)) := (On.refl hw).new _ _ _
  have l0 : (H.new 71 4 (pcs s a e w)).load ⟨H.next, 0, none⟩ = some (.string s) := V.load 0
  have l1 : (H.new 71 4 (pcs s a e w)).load ⟨H.next, 1, none⟩ = some (iv a) := V.load 1
  by_cases hi : a < (bts s).length
  · have e1 : (a : Int) < (s.size : Int) := by rw [len_str]; omega
    have e1' : a < s.size := by rw [← bts_len]; exact hi
    have ix := idx_str s hi
    have hgd : (bts s).getD a 0 = (bts s)[a] := by simp [List.getD, hi]
    rw [hgd] at hB
    obtain ⟨d, hd⟩ : ∃ d, d = (bts s)[a] := ⟨_, rfl⟩
    rw [← hd] at ix hB
    have eb : ((d : Int) == (c : Int)) = B := by
      rw [hB, Bool.eq_iff_iff]; simp
    simp [L44, l0, l1, e1, e1', ix, eb]
    exact fun b hb he => absurd he (by omega)
  · have e1 : ¬ (a : Int) < (s.size : Int) := by rw [len_str]; omega
    have e1' : ¬ a < s.size := by rw [← bts_len]; exact hi
    have hb : B = false := by
      rw [hB, List.getD_eq_getElem?_getD, List.getElem?_eq_none (by omega)]
      simp; omega
    simp [L44, l0, l1, e1, e1', hb]
    exact fun b hb he => absurd he (by omega)
def InvNm (H : Heap) (s : ByteArray) (p o : Nat) (a : Nat) (k : Nat) (t : Tm) (H1 : Heap) : Prop :=
  ∃ i : Nat, i + k = (bts s).length ∧ a ≤ i ∧ t 1 = ptr p ∧ t 2 = ptr o ∧ t 4 = iv a ∧ run isD (bts s) i = run isD (bts s) a ∧ TwoV H H1 p o s i 0 0
def numRes (s : ByteArray) (a : Nat) : Value := match numAt (bts s) a with
  | some v => .tuple #[pv s (run isD (bts s) a) 0 0, iv v]
  | none => .tuple #[pv s (run isD (bts s) a) 250 a, iv 0]
def L45t : LCode := seqR (seqR (seqR L45))
theorem L45_eq : L45 = .seq (seqL L45) (.seq (seqL (seqR L45)) (.seq (seqL (seqR (seqR L45))) L45t)) := rfl
theorem refNumber_T {H : Heap} (hw : H.WF) (s : ByteArray) {a : Nat} (ha : a ≤ (bts s).length) (hl : (bts s).length ≤ 100000) : T Try.prog 45 [pv s a 0 0] H (numRes s a) H := by
  obtain ⟨RR, hRR⟩ : ∃ R, R = numRes s a := ⟨_, rfl⟩
  rw [← hRR]
  unfold numRes at hRR
  refine T_seen hm light45 (by rw [hRR]; cases numAt (bts s) a <;> rfl) ?_
  have V := TwoV.mk' hw s a 0 0
  obtain ⟨G, hG⟩ : ∃ G, G = (H.new 71 4 (pcs s a 0 0)).new 71 4 (pcs ByteArray.empty 0 0 0) := ⟨_, rfl⟩
  obtain ⟨o, ho⟩ : ∃ o, o = H.next + 1 := ⟨_, rfl⟩
  rw [← hG, ← ho] at V
  have l1 := V.l1
  -- behind the digits
  have behind : ∀ (t : Tm) (H1 : Heap) (i : Nat), run isD (bts s) a = i → t 1 = ptr H.next → t 2 = ptr o → t 4 = iv a → TwoV H H1 H.next o s i 0 0 →
      wpA Try.prog L45t (EndA (fun v1 H1 => v1 = RR ∧ ∀ b, b < H.next → H1.blk b = H.blk b) [.cell 2 true 4, .tmp 3]) t (rdy H1) := by
    intro t H1 i hrun t1 t2 t4 V
    have hge := run_ge isD (bts s) a
    have hle : run isD (bts s) a ≤ (bts s).length := run_le ha
    have hb := bts_run s a
    have hdig : ∀ c ∈ dsAt (bts s) a, isD c = true := fun c hc => by
      unfold dsAt at hc
      exact List.all_eq_true.1 List.all_takeWhile c hc
    have hdl : (dsAt (bts s) a).length ≤ 100000 := by
      unfold dsAt
      have := (List.takeWhile_sublist isD (l := (bts s).drop a)).length_le
      rw [List.length_drop] at this; omega
    rw [hrun] at hge hle hb
    have sl := slice_str s hge (by rw [← bts_len]; exact hle)
    have pT := refParse_T (H := H1) (s.extract a i) (by rw [hb]; exact hdig) (by rw [hb]; exact hdl)
    rw [hb] at pT
    obtain ⟨ds, hds⟩ : ∃ ds, ds = dsAt (bts s) a := ⟨_, rfl⟩
    unfold numAt at hRR
    rw [← hds] at pT hRR
    rw [hrun] at hRR
    unfold numN at pT
    obtain ⟨E, hE⟩ : ∃ E, E = numE ds := ⟨_, rfl⟩
    rw [← hE] at pT hRR
    have l0 := V.l0
    have l1 := V.l1
    have lA := V.lA
    have fT := fail_T V.on.wf s i 250 a
    obtain ⟨q1, q2, q3⟩ := V.out s i 250 a
    obtain ⟨p1, p2, p3⟩ := V.out s i 0 0
    by_cases hE0 : E = 0
    · rw [hE0] at pT hRR
      rw [if_pos rfl] at pT
      by_cases hv : valOf ds < 2147483648
      · rw [if_pos ⟨rfl, hv⟩] at hRR
        have c1 : ¬ (2147483647 : Int) < (valOf ds : Int) := by omega
        have c1' : ¬ 2147483647 < valOf ds := by omega
        simp [L45t, seqR, L45, t1, t2, t4, l0, l1, sl]
        refine goT_of pT ?_
        simp [c1, c1', t1, t2, lA, p1, p2, hRR]
        exact p3.keep
      · rw [if_neg (fun h => hv h.2)] at hRR
        have c1 : (2147483647 : Int) < (valOf ds : Int) := by omega
        have c1' : 2147483647 < valOf ds := by omega
        simp [L45t, seqR, L45, t1, t2, t4, l0, l1, sl]
        refine goT_of pT ?_
        simp [c1, c1', t1, t2, t4, lA]
        refine goT_of fT ?_
        simp [t2, q1, q2, hRR]
        exact q3.keep
    · rw [if_neg hE0] at pT
      rw [if_neg (fun h => hE0 h.1)] at hRR
      have hE1 : (E != 0) = true := by simpa using hE0
      simp [L45t, seqR, L45, t1, t2, t4, l0, l1, sl]
      refine goT_of pT ?_
      simp [hE1, hE0, t1, t2, t4, lA]
      refine goT_of fT ?_
      simp [t2, q1, q2, hRR]
      exact q3.keep
  rw [L45_eq]
  simp [L45, seqL, seqR, ← hG, ← ho, l1]
  refine loop_at (InvNm H s H.next o a) ((bts s).length - a) ⟨a, by omega, Nat.le_refl _, by simp, by simp [ho], by simp, rfl, V⟩ ?_
  rintro k t H1 ⟨i, hik, hai, t1, t2, t4, hrun, V⟩
  have l0 := V.l0
  have l1 := V.l1
  have lA := V.lA
  by_cases hi : i < (bts s).length
  · have e1 : (i : Int) < (s.size : Int) := by rw [len_str]; omega
    have e1' : i < s.size := by rw [← bts_len]; exact hi
    have ix := idx_str s hi
    by_cases hb : isD (bts s)[i] = true
    · have e4 : IntKind.i64.wrap ((i : Int) + 1) = ((i + 1 : Nat) : Int) := by rw [w64 _ (by omega)]; omega
      obtain ⟨iN, hiN⟩ : ∃ n, n = i + 1 := ⟨_, rfl⟩
      rw [← hiN] at e4
      have hr2 := run_yes hi hb
      have s1 := V.s1 (iN : Int)
      have V' := V.put (iN : Int) 0 0
      simp only [isD, Bool.and_eq_true, decide_eq_true_eq] at hb
      obtain ⟨c, hc⟩ : ∃ c, c = (bts s)[i] := ⟨_, rfl⟩
      rw [← hc] at hb ix
      have d1 : (48 : Int) ≤ c := by omega
      have d2 : (c : Int) ≤ 57 := by omega
      simp [L45_1, t1, l0, l1, e1, e1', ix, d1, d2, hb, e4, s1]
      exact ⟨k - 1, by omega, iN, by omega, by omega, by simp [t1], by simp [t2], by simp [t4], by rw [hiN, ← hr2, hrun], V'⟩
    · have hb' : isD (bts s)[i] = false := by simpa using hb
      have hr : run isD (bts s) a = i := by rw [← hrun, run_no hi hb']
      obtain ⟨c, hc⟩ : ∃ c, c = (bts s)[i] := ⟨_, rfl⟩
      rw [← hc] at hb' ix hb
      simp only [isD, Bool.and_eq_true, decide_eq_true_eq] at hb
      by_cases d1 : 48 ≤ c
      · have d1i : (48 : Int) ≤ c := by omega
        have d2 : ¬ c ≤ 57 := fun h => hb ⟨d1, h⟩
        have d2i : ¬ (c : Int) ≤ 57 := by omega
        simp [L45_1, t1, l0, l1, e1, e1', ix, d1, d1i, d2, d2i]
        exact behind _ H1 i hr (by simp [t1]) (by simp [t2]) (by simp [t4]) V
      · have d1i : ¬ (48 : Int) ≤ c := by omega
        simp [L45_1, t1, l0, l1, e1, e1', ix, d1, d1i]
        exact behind _ H1 i hr (by simp [t1]) (by simp [t2]) (by simp [t4]) V
  · have e1 : ¬ (i : Int) < (s.size : Int) := by rw [len_str]; omega
    have e1' : ¬ i < s.size := by rw [← bts_len]; exact hi
    have hr : run isD (bts s) a = i := by rw [← hrun, run_stop (by omega)]
    simp [L45_1, t1, l0, l1, e1, e1']
    exact behind _ H1 i hr (by simp [t1]) (by simp [t2]) (by simp [t4]) V
end Go.Proofs.Ytmdlfenileiaeaa
