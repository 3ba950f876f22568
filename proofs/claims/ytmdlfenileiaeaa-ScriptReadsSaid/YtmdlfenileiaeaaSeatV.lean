/-
  Chapter 25: the document's reader: its items walked.
-/
import Derived.Test.YtmdlfenileiaeaaSeatU
namespace Go.Proofs.Ytmdlfenileiaeaa
open Go.Ot Go.RowKit
set_option linter.unusedSimpArgs false
set_option linter.unusedVariables false
theorem TwoV.new {H G : Heap} {p o : Nat} {s : ByteArray} {a e w : Int} (h : TwoV H G p o s a e w) (ty sz : Nat) (c : List Value) : TwoV H (G.new ty sz c) p o s a e w := h.onto ((On.refl h.on.wf).new _ _ _)
theorem refLoop_N {s : ByteArray} {d : Nat} {sub : Option (Nat → Res)} (hsub : SubR s d sub) (hd : d ≤ 8) (hl : (bts s).length ≤ 100000) {H : Heap} (hw : H.WF) {a : Nat} (ha : a ≤ (bts s).length) :
    TN Try.prog 25 [pv s a 0 0, iv d] H (RiQ s H (loopI (bts s) sub ((bts s).length + 1) a [])) := by
  have hso : ∀ f, sub = some f → ∀ a, a ≤ (bts s).length → ResOk (bts s) a (f a) := by
    intro f hf; subst hf; exact hsub.2.1
  have hse : ∀ f, sub = some f → ∀ a e b, f a = .err e b → e ≠ 0 := by
    intro f hf; subst hf; exact hsub.2.2.2.1
  refine N_by hm light25 ?_
  obtain ⟨RR, hRR⟩ : ∃ R, R = loopI (bts s) sub ((bts s).length + 1) a [] := ⟨_, rfl⟩
  rw [← hRR]
  have V := TwoV.mk' hw s a 0 0
  obtain ⟨G, hG⟩ : ∃ G, G = (H.new 71 4 (pcs s a 0 0)).new 71 4 (pcs ByteArray.empty 0 0 0) := ⟨_, rfl⟩
  obtain ⟨p, hp⟩ : ∃ p, p = H.next := ⟨_, rfl⟩
  obtain ⟨o, ho⟩ : ∃ o, o = p + 1 := ⟨_, rfl⟩
  have hpo : H.next + 1 = o := by rw [ho, hp]
  rw [← hG, hpo, ← hp] at V
  simp [L25, ← hG, hpo, ← hp]
  refine loopN_at (InvRi s H p o d sub RR) ((bts s).length + 1) ?_ ?_
  · exact ⟨by simp, by simp, by simp, .inl ⟨a, [], .slice none 0 0, by omega, ha, by simp, by simp, hRR, V, Own.nil _ _ _, fun b hb => (by cases hb)⟩⟩
  · rintro k t H1 ⟨t1, t2, t4, ⟨a, l, x, hk, ha, hl1, t6, hRR, V, own, nx⟩ | ⟨a', e, w, he, hRR, t6, V⟩⟩
    rotate_left
    · have l2 := V.l2
      have lA := V.lA
      obtain ⟨q1, q2, q3⟩ := V.out s a' e w
      have he1 : (e == 0) = false := by simpa using he
      simp [L25_1, t2, l2, he1, he, t4, lA, q1, q2, t6]
      rw [hRR]
      exact ⟨q3, a', rfl⟩
    · cases k with
      | zero => omega
      | succ k =>
        unfold loopI at hRR
        have l2 := V.l2
        have lA := V.lA
        have bT := blanks_T V.on.wf s ha hl 0 0
        have n1 := run_ge isB (bts s) a
        have n2 : run isB (bts s) a ≤ (bts s).length := run_le ha
        obtain ⟨a1, ha1⟩ : ∃ a1, a1 = run isB (bts s) a := ⟨_, rfl⟩
        rw [← ha1] at bT n1 n2 hRR
        obtain ⟨c, hc⟩ : ∃ c, c = (bts s).getD a1 0 := ⟨_, rfl⟩
        have sA := V.sA (a1 : Int) 0 0
        have V2 := V.put (a1 : Int) 0 0
        have own2 : Own (H1.put p (pcs s a1 0 0)) 36 2 l.length (ec l) x := own.keep rfl (fun b hb => by
          have := (nx b hb).2.1
          simp [this])
        obtain ⟨H2, hH2⟩ : ∃ H2, H2 = H1.put p (pcs s a1 0 0) := ⟨_, rfl⟩
        rw [← hH2] at sA V2 own2
        have lA2 := V2.lA
        have i33 := is_T V2.on.wf s a1 0 0 33 (by decide)
        have i40 := is_T V2.on.wf s a1 0 0 40 (by decide)
        rw [← hc] at i33 i40
        obtain ⟨ax, hx⟩ := own.len
        have hnt : notTup x = true := by rw [hx]; rfl
        have l02 := V2.l0
        have l12 := V2.l1
        have xlt : ∀ b, blkOf x = some b → b < H2.next := fun b hb => own2.lt V2.on.wf hb
        have hz2 : zerosA [iv 0, .bool false] 2 = [iv 0, .bool false] := rfl
        -- a row of one behind the row
        have one_row : ∀ (H3 : Heap) (v : Int) (ab : Bool), H3.WF → Own (H3.new 36 2 (erow (v, ab))) 36 2 [(v, ab)].length (ec [(v, ab)]) (.slice (some ⟨H3.next, 0, none⟩) 1 0) := by
          intro H3 v ab w3
          exact Own.mk (by simp [ec, erow]) (by simpa using w3.next_ge) (by simp [ec])
        have own_new : ∀ (H3 : Heap) (a' e w : Int) (cs : List Value), H3 = H2.put p (pcs s a' e w) → Own (H3.new 36 2 cs) 36 2 l.length (ec l) x := by
          intro H3 a' e w cs h
          refine own2.keep (by rw [h]; rfl) (fun b hb => ?_)
          have h1 := (nx b hb).2.1
          have h2 := xlt b hb
          rw [h]
          simp [h1, show b ≠ H2.next by omega]
        -- behind an item
        have good : ∀ (H3 : Heap) (one : List Ent) (b : Nat) (y : Value) (tt : Tm) (Q : Post), itemP (bts s) sub a1 = some (.ok one b) → TwoV H H3 p o s b 0 0 → Own H3 36 2 l.length (ec l) x → Own H3 36 2 one.length (ec one) y → (∀ b, blkOf y = some b → H2.next ≤ b) →
            tt 1 = iv d → tt 2 = ptr p → tt 4 = ptr o → tt 6 = x → tt 7 = y → (∀ tt H', (∃ m, m < k + 1 ∧ InvRi s H p o d sub RR m tt H') → Q .normal tt (rdy H')) → wpN Try.prog L25d Q tt (rdy H3) := by
          intro H3 one b y tt Q hit V3 ox oy ny u1 u2 u4 u6 u7 hN
          obtain ⟨q1, q2, q3⟩ := itemP_ok hso hit
          rw [hit] at hRR
          simp only at hRR
          refine d_ok hl V3 q3 ox oy (fun c hc hc2 => by have := xlt c hc; have := ny c hc2; omega) hl1 q1 nx u1 u2 u4 u6 u7 ?_
          intro tt H' u1 u2 u4 hq
          apply hN
          cases hr : repP (bts s) b l one with
          | ok l' a' =>
            rw [hr] at hq hRR
            obtain ⟨x', u6, Vx, ox', nx'⟩ := hq
            obtain ⟨q4, q5, q6⟩ := repP_ok q3 hr
            exact ⟨k, by omega, u1, u2, u4, .inl ⟨a', l', x', by omega, q6, q4, u6, hRR, Vx, ox', nx'⟩⟩
          | err e w =>
            rw [hr] at hq hRR
            obtain ⟨a', u6, Vx⟩ := hq
            exact ⟨k, by omega, u1, u2, u4, .inr ⟨a', e, w, repP_err hr, hRR, u6, Vx⟩⟩
        rw [L25_1_eq]
        by_cases h33 : c = 33
        · have h33' : (bts s).getD a1 0 = 33 := by rw [← hc, h33]
          have hal : a1 < (bts s).length := getD_pos h33' (by decide)
          have hit : itemP (bts s) sub a1 = some (numP (bts s) (a1 + 1) true) := by unfold itemP; rw [h33', if_neg (by decide), if_pos rfl]
          have e4 : IntKind.i64.wrap ((a1 : Int) + 1) = ((a1 + 1 : Nat) : Int) := by rw [w64 _ (by omega)]; omega
          obtain ⟨a2, ha2⟩ : ∃ n, n = a1 + 1 := ⟨_, rfl⟩
          rw [← ha2] at e4 hit
          have s1 := V2.s1 (a2 : Int)
          have V3 := V2.put (a2 : Int) 0 0
          obtain ⟨H3, hH3⟩ : ∃ H3, H3 = H2.put p (pcs s a2 0 0) := ⟨_, rfl⟩
          rw [← hH3] at s1 V3
          have lA3 := V3.lA
          have nT := refNumber_T V3.on.wf s (a := a2) (by omega) hl
          unfold numRes at nT
          unfold numP at hit
          rw [h33, decide_eq_true rfl] at i33
          simp [L25b, L25_1, blkC, seqL, seqR, t2, l2, lA]
          refine goN_T bT ?_
          simp [t2, sA, lA2]
          refine goN_T i33 ?_
          simp [t2, l12, e4, s1, lA3]
          refine goN_T nT ?_
          cases hna : numAt (bts s) a2 with
          | none =>
            simp only [hna] at hit
            have sA4 := V3.sA (run isD (bts s) a2) 250 a2
            have V4 := V3.put (run isD (bts s) a2) 250 a2
            simp [t2, sA4, hz2]
            rw [hit] at hRR
            refine d_err (V4.new 36 2 [iv 0, .bool true]) (by decide) (by simp [t2]) (by simp [t4]) ?_
            intro tt H' u4 u5 ld on'
            simp [u4, u5, ld]
            rw [hRR]
            exact ⟨on', _, rfl⟩
          | some v =>
            simp only [hna] at hit
            have sA4 := V3.sA (run isD (bts s) a2) 0 0
            have V4 := V3.put (run isD (bts s) a2) 0 0
            have VN := V4.new 36 2 (erow ((v : Int), true))
            have ow := one_row (H3.put p (pcs s (run isD (bts s) a2) 0 0)) v true V4.on.wf
            have ox := own_new (H3.put p (pcs s (run isD (bts s) a2) 0 0)) (run isD (bts s) a2) 0 0 (erow ((v : Int), true)) (by rw [hH3, put_put])
            have hn3 : (H3.put p (pcs s (run isD (bts s) a2) 0 0)).next = H2.next := by rw [hH3]; rfl
            simp only [erow] at VN ow ox
            simp [t2, sA4, hz2]
            refine good _ _ _ _ _ _ hit VN ox ow (fun b hb => by
              have h2 : (H3.put p (pcs s (run isD (bts s) a2) 0 0)).next = b := Option.some.inj hb
              omega) (by simp [t1]) (by simp [t2]) (by simp [t4]) (by simp [t6]) (by simp) (fun tt H' h => by simp; exact h)
        · have hc33 : decide (c = 33) = false := decide_eq_false h33
          rw [hc33] at i33
          by_cases h40 : c = 40
          · have h40' : (bts s).getD a1 0 = 40 := by rw [← hc, h40]
            have hal : a1 < (bts s).length := getD_pos h40' (by decide)
            have hit : itemP (bts s) sub a1 = some (brP (bts s) sub a1) := by unfold itemP; rw [h40', if_pos rfl]
            rw [h40, decide_eq_true rfl] at i40
            cases sub with
            | none =>
              have hd8 : d = 8 := hsub
              have t1' : t 1 = iv 8 := by rw [t1, hd8]; rfl
              have fT := fail_T V2.on.wf s a1 250 a1
              obtain ⟨q1, q2, q3⟩ := V2.out s a1 250 a1
              simp [L25b, L25_1, blkC, seqL, seqR, t2, l2, lA]
              refine goN_T bT ?_
              simp [t2, sA, lA2]
              refine goN_T i33 ?_
              simp [t2, lA2]
              refine goN_T i40 ?_
              simp [t1', t2, lA2, l12]
              refine goN_T fT ?_
              simp [t4, q1, q2]
              rw [hit] at hRR
              rw [hRR]
              exact ⟨q3, _, rfl⟩
            | some f =>
              obtain ⟨hd8, hfo, hfr, hfe, hf⟩ := hsub
              have hdI : ((d : Int) == 8) = false := beq_eq_false_iff_ne.2 (by omega)
              have hdN : ¬ d = 8 := by omega
              have wd : IntKind.i64.wrap ((d : Int) + 1) = ((d + 1 : Nat) : Int) := by rw [w64 _ (by omega)]; omega
              have e4 : IntKind.i64.wrap ((a1 : Int) + 1) = ((a1 + 1 : Nat) : Int) := by rw [w64 _ (by omega)]; omega
              obtain ⟨a2, ha2⟩ : ∃ n, n = a1 + 1 := ⟨_, rfl⟩
              rw [← ha2] at e4
              have s1 := V2.s1 (a2 : Int)
              have V3 := V2.put (a2 : Int) 0 0
              have own3 : Own (H2.put p (pcs s a2 0 0)) 36 2 l.length (ec l) x := own2.keep rfl (fun b hb => by
                have := (nx b hb).2.1
                simp [this])
              obtain ⟨H3, hH3⟩ : ∃ H3, H3 = H2.put p (pcs s a2 0 0) := ⟨_, rfl⟩
              have hn3 : H3.next = H2.next := by rw [hH3]; rfl
              rw [← hH3] at s1 V3 own3
              have lA3 := V3.lA
              have rN := hf H3 a2 V3.on.wf (by omega)
              obtain ⟨d1, hd1⟩ : ∃ n, n = d + 1 := ⟨_, rfl⟩
              rw [← hd1] at wd rN
              simp [L25b, L25_1, blkC, seqL, seqR, t2, l2, lA]
              refine goN_T bT ?_
              simp [t2, sA, lA2]
              refine goN_T i33 ?_
              simp [t2, lA2]
              refine goN_T i40 ?_
              simp [t1, hdI, hdN, t2, l12, e4, s1, lA3, wd]
              refine goN_of rN ?_
              rintro r H4 ⟨on4, hq⟩ w4 b4 n4
              have V4 := V3.onto on4
              have own4 := Own.on V3.on.wf own3 on4
              cases hfa : f a2 with
              | err e w =>
                rw [hfa] at hq
                obtain ⟨a', rfl⟩ := hq
                have he := hfe _ _ _ hfa
                have he0 : (e == 0) = false := by simpa using he
                have sA5 := V4.sA a' e w
                have V5 := V4.put a' e w
                have l25 := V5.l2
                have l15 := V5.l1
                have s15 := V5.s1 (IntKind.i64.wrap (a' + 1))
                have V6 := V5.put (IntKind.i64.wrap (a' + 1)) e w
                have hit2 : itemP (bts s) (some f) a1 = some (.err e w) := by
                  rw [hit]; unfold brP; simp only; rw [← ha2, hfa]
                rw [hit2] at hRR
                simp [t2, sA5, l25, he0, he, l15, s15]
                refine d_err V6 he (by simp [t2]) (by simp [t4]) ?_
                intro tt H' u4 u5 ld on'
                simp [u4, u5, ld]
                rw [hRR]
                exact ⟨on', _, rfl⟩
              | ok one b =>
                rw [hfa] at hq
                obtain ⟨y, rfl, ony, ny⟩ := hq
                have hrb := hfr a2 (by omega) _ _ hfa
                obtain ⟨q4, q5, q6⟩ : ResOk (bts s) a2 (.ok one b) := by rw [← hfa]; exact hfo a2 (by omega)
                obtain ⟨ay, hy⟩ := ony.len
                have hnty : notTup y = true := by rw [hy]; rfl
                have sA5 := V4.sA (b : Int) 0 0
                have V5 := V4.put (b : Int) 0 0
                have own5 : Own (H4.put p (pcs s b 0 0)) 36 2 l.length (ec l) x := own4.keep rfl (fun b hb => by
                  have := (nx b hb).2.1
                  simp [this])
                have plt := V3.on.wf.lt V3.vp.bq
                have ony5 : Own (H4.put p (pcs s b 0 0)) 36 2 one.length (ec one) y := ony.keep rfl (fun b hb => by
                  have := ny b hb
                  simp [show b ≠ p by omega])
                obtain ⟨H5, hH5⟩ : ∃ H5, H5 = H4.put p (pcs s b 0 0) := ⟨_, rfl⟩
                rw [← hH5] at sA5 V5 own5 ony5
                have l25 := V5.l2
                have l15 := V5.l1
                have lA5 := V5.lA
                have i41 := is_T V5.on.wf s b 0 0 41 (by decide)
                by_cases h41 : (bts s).getD b 0 = 41
                · have hbl : b < (bts s).length := getD_pos h41 (by decide)
                  have e5 : IntKind.i64.wrap ((b : Int) + 1) = ((b + 1 : Nat) : Int) := by rw [w64 _ (by omega)]; omega
                  have hit2 : itemP (bts s) (some f) a1 = some (.ok one (b + 1)) := by
                    rw [hit]; unfold brP; simp only; rw [← ha2, hfa]; simp only; rw [hrb, if_pos h41]
                  obtain ⟨b1, hb1⟩ : ∃ n, n = b + 1 := ⟨_, rfl⟩
                  rw [← hb1] at e5 hit2
                  rw [decide_eq_true h41] at i41
                  have s15 := V5.s1 (b1 : Int)
                  have V6 := V5.put (b1 : Int) 0 0
                  have own6 : Own (H5.put p (pcs s b1 0 0)) 36 2 l.length (ec l) x := own5.keep rfl (fun b hb => by
                    have := (nx b hb).2.1
                    simp [this])
                  have ony6 : Own (H5.put p (pcs s b1 0 0)) 36 2 one.length (ec one) y := ony5.keep rfl (fun b hb => by
                    have := ny b hb
                    simp [show b ≠ p by omega])
                  simp [t2, sA5, l25, lA5, hnty]
                  refine goN_T i41 ?_
                  simp [t2, l15, e5, s15]
                  exact good _ _ _ _ _ _ hit2 V6 own6 ony6 (fun b hb => by have := ny b hb; omega) (by simp [t1]) (by simp [t2]) (by simp [t4]) (by simp [t6]) (by simp) (fun tt H' h => by simp; exact h)
                · rw [decide_eq_false h41] at i41
                  have hit2 : itemP (bts s) (some f) a1 = some (.err 250 b) := by
                    rw [hit]; unfold brP; simp only; rw [← ha2, hfa]; simp only; rw [hrb, if_neg h41]
                  have fT := fail_T V5.on.wf s b 250 b
                  have sA6 := V5.sA (b : Int) 250 b
                  have V6 := V5.put (b : Int) 250 b
                  have l16 := V6.l1
                  have s16 := V6.s1 (IntKind.i64.wrap ((b : Int) + 1))
                  have V7 := V6.put (IntKind.i64.wrap ((b : Int) + 1)) 250 b
                  rw [hit2] at hRR
                  simp [t2, sA5, l25, lA5, hnty]
                  refine goN_T i41 ?_
                  simp [t2, l15, lA5]
                  refine goN_T fT ?_
                  simp [t2, sA6, l16, s16]
                  refine d_err V7 (by decide) (by simp [t2]) (by simp [t4]) ?_
                  intro tt H' u4 u5 ld on'
                  simp [u4, u5, ld]
                  rw [hRR]
                  exact ⟨on', _, rfl⟩
          · have hc40 : decide (c = 40) = false := decide_eq_false h40
            rw [hc40] at i40
            simp [L25b, L25_1, blkC, seqL, seqR, t2, l2, lA]
            refine goN_T bT ?_
            simp [t2, sA, lA2]
            refine goN_T i33 ?_
            simp [t2, lA2]
            refine goN_T i40 ?_
            obtain ⟨q1, q2, q3⟩ := V2.out s a1 0 0
            by_cases hD : isD c = true
            · have hD' := hD
              have hit : itemP (bts s) sub a1 = some (numP (bts s) a1 false) := by unfold itemP; rw [← hc, if_neg h40, if_neg h33, if_pos hD]
              simp only [isD, Bool.and_eq_true, decide_eq_true_eq] at hD
              have hal : a1 < (bts s).length := getD_pos hc.symm (by omega)
              have e1 : (a1 : Int) < (s.size : Int) := by rw [len_str]; omega
              have e1' : a1 < s.size := by rw [← bts_len]; exact hal
              have ix := idx_str s hal
              have hgd : (bts s).getD a1 0 = (bts s)[a1] := by simp [List.getD, hal]
              rw [← hgd, ← hc] at ix
              have d1 : (48 : Int) ≤ c := by omega
              have d2 : (c : Int) ≤ 57 := by omega
              have nT := refNumber_T V2.on.wf s (a := a1) n2 hl
              unfold numRes at nT
              unfold numP at hit
              simp [t2, l02, l12, e1, e1', ix, d1, d2, hD, lA2]
              refine goN_T nT ?_
              cases hna : numAt (bts s) a1 with
              | none =>
                simp only [hna] at hit
                have sA4 := V2.sA (run isD (bts s) a1) 250 a1
                have V4 := V2.put (run isD (bts s) a1) 250 a1
                simp [t2, sA4, hz2]
                rw [hit] at hRR
                refine d_err (V4.new 36 2 [iv 0, .bool false]) (by decide) (by simp [t2]) (by simp [t4]) ?_
                intro tt H' u4 u5 ld on'
                simp [u4, u5, ld]
                rw [hRR]
                exact ⟨on', _, rfl⟩
              | some v =>
                simp only [hna] at hit
                have sA4 := V2.sA (run isD (bts s) a1) 0 0
                have V4 := V2.put (run isD (bts s) a1) 0 0
                have VN := V4.new 36 2 (erow ((v : Int), false))
                have ow := one_row (H2.put p (pcs s (run isD (bts s) a1) 0 0)) v false V4.on.wf
                have ox := own_new (H2.put p (pcs s (run isD (bts s) a1) 0 0)) (run isD (bts s) a1) 0 0 (erow ((v : Int), false)) rfl
                simp only [erow] at VN ow ox
                simp [t2, sA4, hz2]
                refine good _ _ _ _ _ _ hit VN ox ow (fun b hb => by
                  have h2 : H2.next = b := Option.some.inj hb
                  omega) (by simp [t1]) (by simp [t2]) (by simp [t4]) (by simp [t6]) (by simp) (fun tt H' h => by simp; exact h)
            · have hit : itemP (bts s) sub a1 = none := by unfold itemP; rw [← hc, if_neg h40, if_neg h33, if_neg hD]
              rw [hit] at hRR
              simp only at hRR
              have fin : RiQ s H RR (.ret (.tuple #[pv s a1 0 0, x])) (H2.put o (pcs s a1 0 0)) := by
                rw [hRR]
                exact ⟨q3, x, rfl, own2.keep rfl (fun b hb => by
                  have := (nx b hb).2.2
                  simp [this]), fun b hb => (nx b hb).1⟩
              by_cases hal : a1 < (bts s).length
              · have e1 : (a1 : Int) < (s.size : Int) := by rw [len_str]; omega
                have e1' : a1 < s.size := by rw [← bts_len]; exact hal
                have ix := idx_str s hal
                have hgd : (bts s).getD a1 0 = (bts s)[a1] := by simp [List.getD, hal]
                rw [← hgd, ← hc] at ix
                simp only [isD, Bool.and_eq_true, decide_eq_true_eq] at hD
                by_cases d1 : 48 ≤ c
                · have d1i : (48 : Int) ≤ c := by omega
                  have d2 : ¬ c ≤ 57 := fun h => hD ⟨d1, h⟩
                  have d2i : ¬ (c : Int) ≤ 57 := by omega
                  simp [t2, l02, l12, e1, e1', ix, d1, d1i, d2, d2i, lA2, t4, q1, q2, t6, hnt]
                  exact fin
                · have d1i : ¬ (48 : Int) ≤ c := by omega
                  simp [t2, l02, l12, e1, e1', ix, d1, d1i, lA2, t4, q1, q2, t6, hnt]
                  exact fin
              · have e1 : ¬ (a1 : Int) < (s.size : Int) := by rw [len_str]; omega
                have e1' : ¬ a1 < s.size := by rw [← bts_len]; exact hal
                simp [t2, l02, l12, e1, e1', lA2, t4, q1, q2, t6, hnt]
                exact fin
theorem refItems_N {s : ByteArray} (hl : (bts s).length ≤ 100000) : ∀ (k d : Nat), d + k = 8 → ∀ (H : Heap) (a : Nat), H.WF → a ≤ (bts s).length → TN Try.prog 25 [pv s a 0 0, iv d] H (RiQ s H (items (bts s) k a))
  | 0, d, h, H, a, hw, ha => refLoop_N (sub := none) (by show d = 8; omega) (by omega) hl hw ha
  | k + 1, d, h, H, a, hw, ha => refLoop_N (sub := some (items (bts s) k)) ⟨by omega, items_ok (bts s) k, fun a ha l b h => items_run (bts s) k a ha h, fun a e b h => items_err (bts s) k a h, fun H a hw ha => refItems_N hl k (d + 1) (by omega) H a hw ha⟩ (by omega) hl hw ha
end Go.Proofs.Ytmdlfenileiaeaa
