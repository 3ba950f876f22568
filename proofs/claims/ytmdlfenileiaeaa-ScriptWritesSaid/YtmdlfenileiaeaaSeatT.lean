/-
  Chapter 25: the document's reader: an item as often as is said.
-/
import Derived.Test.YtmdlfenileiaeaaSeatS
namespace Go.Proofs.Ytmdlfenileiaeaa
open Go.Ot Go.RowKit
set_option linter.unusedSimpArgs false
set_option linter.unusedVariables false
/-- All stands but a row. -/
structure Fw (H H1 : Heap) (x : Value) : Prop where
  wf : H1.WF
  base : H1.base = H.base
  next : H.next ≤ H1.next
  keep : ∀ b, b < H.next → blkOf x ≠ some b → H1.blk b = H.blk b
theorem On.fw {H H1 : Heap} (a : On H H1) (x : Value) : Fw H H1 x := ⟨a.wf, a.base, a.next, fun b h1 _ => a.keep b h1⟩
theorem Fw.put {H H1 : Heap} {x : Value} (a : Fw H H1 x) {p : Nat} (hp : H.next ≤ p) (c : List Value) : Fw H (H1.put p c) x :=
  ⟨WF_put a.wf _ _, a.base, a.next, fun b hb hx => by simp [show b ≠ p by omega, a.keep b hb hx]⟩
def RfQ (s : ByteArray) (H : Heap) (x : Value) (R : Res) (r : Out) (H' : Heap) : Prop :=
  Fw H H' x ∧ match R with
  | .ok l a => ∃ x', r = .ret (.tuple #[pv s a 0 0, x']) ∧ Own H' 36 2 l.length (ec l) x' ∧ ∀ b, blkOf x' = some b → blkOf x = some b ∨ H.next ≤ b
  | .err e w => ∃ a' : Int, r = .ret (.tuple #[pv s a' e w, .slice none 0 0])
def InvRf (s : ByteArray) (H : Heap) (p o a a2 : Nat) (x y : Value) (l one : List Ent) (many : Nat) (k : Nat) (t : Tm) (H1 : Heap) : Prop :=
  ∃ i x', i + k = many ∧ t 1 = x' ∧ t 2 = y ∧ t 3 = ptr p ∧ t 6 = ptr o ∧ t 8 = iv a ∧ t 9 = iv many ∧ t 10 = iv i ∧ l.length + i * one.length ≤ 40000 ∧ Fw H H1 x ∧ Own H1 36 2 (l ++ (List.replicate i one).flatten).length (ec (l ++ (List.replicate i one).flatten)) x' ∧ Own H1 36 2 one.length (ec one) y ∧
    Vr H1 p 71 4 (pcs s a2 0 0) ∧ (∃ c2, Vr H1 o 71 4 c2 ∧ c2.length = 4) ∧ blkOf x' ≠ some p ∧ blkOf x' ≠ some o ∧ (∀ b, blkOf x' = some b → blkOf x = some b ∨ H.next ≤ b) ∧ ∀ b, blkOf x' = some b → blkOf y ≠ some b
def L46t : LCode := seqR (seqR (seqR (seqR L46)))
theorem L46_eq : L46 = .seq (seqL L46) (.seq (seqL (seqR L46)) (.seq (seqL (seqR (seqR L46))) (.seq (seqL (seqR (seqR (seqR L46)))) L46t))) := rfl
section
variable {H : Heap} (hw : H.WF) {s : ByteArray} {x y : Value} {l one : List Ent} (ox : Own H 36 2 l.length (ec l) x) (oy : Own H 36 2 one.length (ec one) y) (xy : ∀ b, blkOf x = some b → blkOf y ≠ some b)
    (hl1 : l.length ≤ 40000) (hl2 : one.length ≤ 40000)
include hw ox oy xy hl1 hl2
theorem refRep_tail {p o a a2 many : Nat} {H1 : Heap} (V : TwoV H H1 p o s a2 0 0) (hmany : many < 2147483648) {t : Tm} (t1 : t 1 = x) (t2 : t 2 = y) (t3 : t 3 = ptr p) (t6 : t 6 = ptr o) (t8 : t 8 = iv a) (t9 : t 9 = iv many) :
    wpN Try.prog L46t (EndN (RfQ s H x (repGo a l one many a2)) [.cell 6 true 4, .tmp 7]) t (rdy H1) := by
  have np := V.np
  have no := V.no
  have ne := V.ne
  have ylt : ∀ b, blkOf y = some b → b < H.next := fun b hb => oy.lt hw hb
  have xlt : ∀ b, blkOf x = some b → b < H.next := fun b hb => ox.lt hw hb
  obtain ⟨RR, hRR⟩ : ∃ R, R = repGo a l one many a2 := ⟨_, rfl⟩
  rw [← hRR]
  unfold repGo at hRR
  simp [L46t, seqR, L46]
  refine loopN_at (InvRf s H p o a a2 x y l one many) many ?_ ?_
  · exact ⟨0, x, by omega, by simp [t1], by simp [t2], by simp [t3], by simp [t6], by simp [t8], by simp [t9], by simp, by omega, V.on.fw x, by simpa using Own.on hw ox V.on, Own.on hw oy V.on, V.vp, V.vo, fun e => by have := xlt p e; omega, fun e => by have := xlt o e; omega, fun b h => .inl h, xy⟩
  · rintro k tt H2 ⟨i, x', hik, u1, u2, u3, u6, u8, u9, u10, hfit, fw, ox', oy', vp, ⟨c2, vo, hc2⟩, xp, xo, nx', xy'⟩
    obtain ⟨ax, hx⟩ := ox'.len
    obtain ⟨ay, hy⟩ := oy'.len
    have hlen1 : (l ++ (List.replicate i one).flatten).length = l.length + i * one.length := by simp
    have lA : H2.loadN ⟨p, 0, none⟩ 0 4 = some (pcs s a2 0 0) := vp.loadA rfl
    have out : ∀ a' e' w' : Int, sStore H2 4 (ptr o) (.agg (pcs s a' e' w').toArray) = some (H2.put o (pcs s a' e' w')) ∧ (H2.put o (pcs s a' e' w')).loadN ⟨o, 0, none⟩ 0 4 = some (pcs s a' e' w') := fun a' e' w' => ⟨vo.storeA (by decide) _ rfl hc2, (vo.put _).loadA rfl⟩
    obtain ⟨p1, p2⟩ := out a2 0 0
    have hnt : notTup x' = true := by rw [hx]; rfl
    -- the end
    have fin : RR = .ok (l ++ (List.replicate i one).flatten) a2 → RfQ s H x RR (.ret (.tuple #[pv s a2 0 0, x'])) (H2.put o (pcs s a2 0 0)) := by
      intro h
      rw [h]
      exact ⟨fw.put no _, x', rfl, ox'.keep rfl (fun b hb => by
        have : b ≠ o := fun e => xo (by rw [hb, e])
        simp [this]), nx'⟩
    have u1' := u1
    have u2' := u2
    by_cases h0 : one.length = 0
    · have hone : one = [] := List.length_eq_zero_iff.1 h0
      have hflat : ∀ m : Nat, l ++ (List.replicate m one).flatten = l := by intro m; simp [hone]
      have := fin (by rw [hRR, if_neg (by rw [h0]; omega), hflat, hflat])
      rw [hy, h0] at u2
      by_cases e1 : (i : Int) < (many : Int)
      · have e1' : i < many := by omega
        simp [L46_1, u9, u10, u2, e1, e1', u3, u6, lA, p1, p2, u1, hnt]
        exact this
      · have e1' : ¬ i < many := by omega
        simp [L46_1, u9, u10, u2, e1, e1', u3, u6, lA, p1, p2, u1, hnt]
        exact this
    · cases k with
      | zero =>
        have ei : i = many := by omega
        subst ei
        have := fin (by rw [hRR, if_neg (by omega)])
        simp [L46_1, u9, u10, u3, u6, lA, p1, p2, u1, hnt]
        exact this
      | succ k =>
        have e1 : ((i : Int) < (many : Int)) := by omega
        have e1' : i < many := by omega
        have y0 : (0 : Int) < (one.length : Int) := by omega
        have y0' : 0 < one.length := by omega
        have hmul : (i + 1) * one.length = i * one.length + one.length := by rw [Nat.add_mul, Nat.one_mul]
        obtain ⟨n1, hn1⟩ : ∃ n1, n1 = (l ++ (List.replicate i one).flatten).length := ⟨_, rfl⟩
        have wS : IntKind.i64.wrap ((n1 : Int) + (one.length : Int)) = ((n1 + one.length : Nat) : Int) := by rw [w64 _ (by omega)]; omega
        obtain ⟨sm, hsm⟩ : ∃ n : Nat, n = n1 + one.length := ⟨_, rfl⟩
        rw [← hsm] at wS
        rw [hx, ← hn1] at u1
        rw [hy] at u2
        by_cases hov : 40000 < sm
        · have hovI : (40000 : Int) < (sm : Int) := by omega
          have hRe : RR = .err 251 a := by
            have h2 : (i + 1) * one.length ≤ many * one.length := Nat.mul_le_mul_right _ (by omega)
            rw [hRR, if_pos (by omega)]
          have fT := fail_T fw.wf s a2 251 a
          obtain ⟨q1, q2⟩ := out a2 251 a
          simp [L46_1, u9, u10, u1, u2, e1, e1', y0, y0', wS, hov, hovI, u3, u6, u8, lA]
          refine goN_T fT ?_
          simp [u6, q1, q2]
          rw [hRe]
          exact ⟨fw.put no _, a2, rfl⟩
        · have hovI : ¬ (40000 : Int) < (sm : Int) := by omega
          have src := own_src oy' (by decide : 0 < 2)
          have ap := append_any (bytes := 16) ox' src h0 (by rw [hlen1]; omega)
          obtain ⟨H3, hH3⟩ : ∃ H3, H3 = (H2.drop x').new 36 2 (ec (l ++ (List.replicate i one).flatten) ++ ec one) := ⟨_, rfl⟩
          rw [← hH3] at ap
          have e4 : IntKind.i64.wrap ((i : Int) + 1) = ((i + 1 : Nat) : Int) := by rw [w64 _ (by omega)]; omega
          obtain ⟨iN, hiN⟩ : ∃ n, n = i + 1 := ⟨_, rfl⟩
          have hrep : l ++ (List.replicate iN one).flatten = (l ++ (List.replicate i one).flatten) ++ one := by
            rw [hiN, List.replicate_succ', List.flatten_append]; simp
          have w3 : H3.WF := by rw [hH3]; exact WF_new (WF_drop fw.wf _) _ _ _
          have hn2 := fw.wf.next_ge
          have n3 : H3.next = H2.next + 1 := by rw [hH3]; simp
          have b3 : H3.base = H2.base := by rw [hH3]; simp
          have k3 : ∀ b, b < H2.next → blkOf x' ≠ some b → H3.blk b = H2.blk b := fun b hb hx => by
            rw [hH3]; simp [show b ≠ H2.next by omega, blk_drop, hx]
          have nx2 := fw.next
          have plt := fw.wf.lt vp.bq
          have olt := fw.wf.lt vo.bq
          obtain ⟨x2, hx2⟩ : ∃ x2 : Value, x2 = .slice (some ⟨H2.next, 0, none⟩) ((l ++ (List.replicate i one).flatten).length + one.length) 0 := ⟨_, rfl⟩
          rw [← hx2] at ap
          have bx2 : ∀ b, blkOf x2 = some b → b = H2.next := fun b hb => by rw [hx2] at hb; exact (Option.some.inj hb).symm
          rw [← hiN] at e4
          rw [hx, hy, ← hn1] at ap
          simp [L46_1, u9, u10, u1, u2, e1, e1', y0, y0', wS, hov, hovI, ap, e4]
          have ylt1 : ∀ b, blkOf y = some b → b < H2.next := fun b hb => oy'.lt fw.wf hb
          refine ⟨k, by omega, iN, x2, by omega, by simp, by simp [u2'], by simp [u3], by simp [u6], by simp [u8], by simp [u9], by simp, by rw [hiN]; omega, ⟨w3, b3.trans fw.base, ?_, fun b h1 h2 => ?_⟩, ?_, ?_, vp.keep b3 (k3 p plt xp), ⟨c2, vo.keep b3 (k3 o olt xo), hc2⟩, ?_, ?_, ?_, ?_⟩
          · show H.next ≤ H3.next
            omega
          · show H3.blk b = H.blk b
            rw [k3 b (by omega) (fun e => by
              rcases nx' b e with h | h
              · exact h2 h
              · omega), fw.keep b h1 h2]
          · show Own H3 36 2 _ _ x2
            rw [hrep, List.length_append, ec_append, hx2]
            refine Own.mk (by rw [List.length_append, ec_len, ec_len]; omega) (by rw [B_eq b3]; exact hn2) ?_
            rw [hH3]; simp
          · exact oy'.keep (B_eq b3) (fun b hb => k3 b (ylt1 b hb) (fun e => xy' b e hb))
          · intro e
            have := bx2 p e
            omega
          · intro e
            have := bx2 o e
            omega
          · intro b e
            right
            have := bx2 b e
            omega
          · intro b e h
            have := bx2 b e
            have := ylt1 b h
            omega
theorem refRepeat_N {a : Nat} (ha : a ≤ (bts s).length) (hl : (bts s).length ≤ 100000) : TN Try.prog 46 [pv s a 0 0, x, y] H (RfQ s H x (repP (bts s) a l one)) := by
  refine N_by hm light46 ?_
  have tail := @refRep_tail H hw s x y l one ox oy xy hl1 hl2
  obtain ⟨ax, hx⟩ := ox.len
  obtain ⟨ay, hy⟩ := oy.len
  have n1 : notTup x = true := by rw [hx]; rfl
  have n2 : notTup y = true := by rw [hy]; rfl
  obtain ⟨RR, hRR⟩ : ∃ R, R = repP (bts s) a l one := ⟨_, rfl⟩
  rw [← hRR]
  unfold repP at hRR
  have V := TwoV.mk' hw s a 0 0
  obtain ⟨G, hG⟩ : ∃ G, G = (H.new 71 4 (pcs s a 0 0)).new 71 4 (pcs ByteArray.empty 0 0 0) := ⟨_, rfl⟩
  obtain ⟨o, ho⟩ : ∃ o, o = H.next + 1 := ⟨_, rfl⟩
  rw [← hG, ← ho] at V
  have l1 := V.l1
  have l2 := V.l2
  have lA := V.lA
  have iT := is_T V.on.wf s a 0 0 42 (by decide)
  rw [L46_eq]
  by_cases hc : (bts s).getD a 0 = 42
  · have hal : a < (bts s).length := getD_pos hc (by decide)
    rw [if_pos ⟨hal, hc⟩] at hRR
    rw [decide_eq_true hc] at iT
    have e4 : IntKind.i64.wrap ((a : Int) + 1) = ((a + 1 : Nat) : Int) := by rw [w64 _ (by omega)]; omega
    obtain ⟨a1, ha1⟩ : ∃ n, n = a + 1 := ⟨_, rfl⟩
    rw [← ha1] at e4 hRR
    have s1 := V.s1 (a1 : Int)
    have V1 := V.put (a1 : Int) 0 0
    obtain ⟨G1, hG1⟩ : ∃ G1, G1 = G.put H.next (pcs s a1 0 0) := ⟨_, rfl⟩
    rw [← hG1] at s1 V1
    have lA1 := V1.lA
    have nT := refNumber_T V1.on.wf s (a := a1) (by omega) hl
    unfold numRes at nT
    simp [L46, seqL, seqR, ← hG, ← ho, l1, lA]
    refine goN_T iT ?_
    simp [l1, e4, s1, lA1]
    refine goN_T nT ?_
    cases hna : numAt (bts s) a1 with
    | none =>
      rw [hna] at hRR
      simp only at hRR
      have sA := V1.sA (run isD (bts s) a1) 250 a1
      have V2 := V1.put (run isD (bts s) a1) 250 a1
      have l22 := V2.l2
      have lA2 := V2.lA
      obtain ⟨q1, q2, q3⟩ := V2.out s (run isD (bts s) a1) 250 a1
      simp [sA, l22, lA2, q1, q2]
      rw [hRR]
      exact ⟨q3.fw x, _, rfl⟩
    | some v =>
      rw [hna] at hRR
      simp only at hRR
      have hv : v < 2147483648 := by
        unfold numAt at hna
        split at hna
        · cases hna; rename_i h; exact h.2
        · cases hna
      have sA := V1.sA (run isD (bts s) a1) 0 0
      have V2 := V1.put (run isD (bts s) a1) 0 0
      have l22 := V2.l2
      simp [sA, l22]
      rw [hRR]
      exact tail V2 hv (by simp) (by simp) (by simp) (by simp [ho]) (by simp) (by simp)
  · rw [if_neg (fun h => hc h.2)] at hRR
    rw [decide_eq_false hc] at iT
    simp [L46, seqL, seqR, ← hG, ← ho, l1, lA]
    refine goN_T iT ?_
    simp [l2]
    rw [hRR]
    exact tail V (by decide) (by simp) (by simp) (by simp) (by simp [ho]) (by simp) (by simp)
end
end Go.Proofs.Ytmdlfenileiaeaa
