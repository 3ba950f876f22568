/-
  Chapter 27: a task commits; a task is an error.
-/
import Derived.Test.YtjkfghekdcalhaaSeatFA
namespace Go.Proofs.Ytjkfghekdcalhaa
open Go.Ot Go.RowKit
open R14 (Twos ci joinV addN ontoN)
set_option linter.unusedSimpArgs false
set_option linter.unusedVariables false
theorem BK.at {H0 H : Heap} {p : Nat} {ow : Nat → Nat} {J : Jb} {n : Int} {wh : Bool} {S : BS} {pt : List Value} {xm xo xr : Value} (B : BK H0 H p ow J n wh S pt xm xo xr) {a q : Nat} {t : Tr} (h200 : a < 200) (ht : S.tries[a]? = some (some t)) (hq : pt[a]? = some (ptr q)) : ∃ yr yw yo yi, TrH H ow a q t yr yw yo yi := by
  rcases B.tr a h200 with ⟨h1, _⟩ | ⟨t2, q2, yr, yw, yo, yi, h1, h2, h3⟩
  · rw [ht] at h1; cases h1
  · rw [ht] at h1
    rw [hq] at h2
    cases h1
    simp only [Option.some.injEq, Value.pointer.injEq, Addr.mk.injEq, and_true] at h2
    subst h2
    exact ⟨yr, yw, yo, yi, h3⟩
/-- What is told of all is told anew; of the attempts some may be taken away. -/
theorem BK.step {H0 H : Heap} {p : Nat} {ow : Nat → Nat} {J : Jb} {n : Int} {wh : Bool} {S : BS} {pt : List Value} {xm xo xr : Value} (B : BK H0 H p ow J n wh S pt xm xo xr) {H3 : Heap} (w3 : H3.WF) (b3 : H3.base = H.base) (n3 : H.next ≤ H3.next)
    (k3 : ∀ b, b < H.next → ow b ≠ 2002 → H3.blk b = H.blk b) {ow' : Nat → Nat} (ho : ∀ b, b < H.next → ow' b = ow b) {S' : BS} {pt' : List Value} {xm' xo' xr' : Value} (m' : Own H3 2 1 S'.mem.length (ci S'.mem) xm') (o' : Own H3 2 1 S'.outs.length (ci S'.outs) xo') (r' : Own H3 2 1 S'.reds.length (ci S'.reds) xr')
    (lm' : ∀ b, blkOf xm' = some b → ow' b = 2001) (lo' : ∀ b, blkOf xo' = some b → ow' b = 2002) (lr' : ∀ b, blkOf xr' = some b → ow' b = 2003) (pl' : pt'.length = 200) (tl' : S'.tries.length = 200)
    (tr' : ∀ i, i < 200 → (S'.tries[i]? = some none ∧ pt'[i]? = some (.pointer none)) ∨ (S'.tries[i]? = S.tries[i]? ∧ pt'[i]? = pt[i]?)) : BK H0 (H3.put p (bkC J n pt' xm' xo' xr' S' wh)) p ow' J n wh S' pt' xm' xo' xr' := by
  have hw := B.on.wf
  have bp := hw.lt B.vp.bq
  have lp := B.lp
  have h0n := B.on.next
  have p0 : H0.next ≤ p := by
    by_cases h : p < H0.next
    · have := B.old p h; omega
    · omega
  have vp3 : Vr H3 p 81 220 (bkC J n pt xm xo xr S wh) := B.vp.keep b3 (k3 p bp (by omega))
  have on3 : On H0 H3 := ⟨w3, b3.trans B.on.base, Nat.le_trans h0n n3, fun b hb => by rw [k3 b (by omega) (by have := B.old b hb; omega), B.on.keep b hb]⟩
  have kp : ∀ {ety sz m : Nat} {cs : List Value} {y : Value} (h : Own H3 ety sz m cs y), (∀ b, blkOf y = some b → b ≠ p) → Own (H3.put p (bkC J n pt' xm' xo' xr' S' wh)) ety sz m cs y := fun h h1 => h.keep (by simp) (fun b hb => by simp [h1 b hb])
  have lp' : ow' p = 2000 := by rw [ho p bp]; exact lp
  refine ⟨on3.put p0 _, vp3.put _, lp', fun b hb => by rw [ho b (by omega)]; exact B.old b hb, kp m' (fun b hb e => by have := lm' b hb; rw [e] at this; omega), kp o' (fun b hb e => by have := lo' b hb; rw [e] at this; omega), kp r' (fun b hb e => by have := lr' b hb; rw [e] at this; omega), lm', lo', lr', pl', tl', fun i hi => ?_⟩
  rcases tr' i hi with h | ⟨h1, h2⟩
  · exact .inl h
  · rw [h1, h2]
    rcases B.tr i hi with h | ⟨t, q2, a, b, c, d, h1, h2, h3⟩
    · exact .inl h
    · exact .inr ⟨t, q2, a, b, c, d, h1, h2, h3.keep hw (by simp [b3]) (fun b hb h4 h5 => by rw [← k3 b hb (by omega)]; simp [show b ≠ p from fun e => by rw [e] at h5; omega]) ho⟩
theorem bkC_tail (J : Jb) (n : Int) (pt : List Value) (xm xo xr : Value) (S : BS) (wh : Bool) (pl : pt.length = 200) (j : Nat) (v : Value) : (bkC J n pt xm xo xr S wh).set (212 + j) v = jobC J ++ (iv n :: (pt ++ ([xm, xo, xr, iv S.fa, iv S.fo, iv S.fv, iv S.count, .bool wh].set j v))) := by
  unfold bkC
  rw [List.set_append_right _ _ (by simp; omega), show 212 + j - (jobC J).length = (200 + j) + 1 from by simp; omega, List.set_cons_succ, List.set_append_right _ _ (by omega), pl, show 200 + j - 200 = j by omega]
theorem bkC_len (J : Jb) (n : Int) (pt : List Value) (xm xo xr : Value) (S : BS) (wh : Bool) (pl : pt.length = 200) : (bkC J n pt xm xo xr S wh).length = 220 := by simp [pl]
theorem commit_N {H0 H : Heap} (hw0 : H0.WF) {p : Nat} {ow : Nat → Nat} {J : Jb} {n : Int} {S : BS} {pt : List Value} {xm xo xr : Value} (B : BK H0 H p ow J n false S pt xm xo xr) (ok : JbOk H0 J) {k : Nat} (sok : SOk J k S) (hk : k ≤ 300) (hv : validE J = 0)
    {x : Ev} {a : Nat} (ha : x.age = (a : Int)) (h200 : a < 200) {t : Tr} {q : Nat} {yr yw yo yi : Value} (ht : S.tries[a]? = some (some t)) (hq : pt[a]? = some (ptr q)) (T : TrH H ow a q t yr yw yo yi) :
    TE Try.prog 43 [ptr p, .agg (evC x).toArray, ptr q] H (EvQ H0 p J n false (if x.age = S.count ∧ holdsV S.mem t.reads = true then some (commitV J S a t) else none)) := by
  refine TE_by hm light43 ?_
  have hw := B.on.wf
  have tok := sok.tr a t ht
  obtain ⟨HA, hHA⟩ : ∃ HA, HA = H.new 58 6 (evC x) := ⟨_, rfl⟩
  obtain ⟨vx, hvx⟩ : ∃ vx, vx = H.next := ⟨_, rfl⟩
  obtain ⟨owA, howA⟩ : ∃ owA, owA = ow2 ow vx 7777 := ⟨_, rfl⟩
  have A : EA H0 HA p owA J n false S pt xm xo xr vx x := by
    rw [hHA, hvx, howA]
    exact ⟨B.grow ((On.refl hw).new _ _ _) (fun b hb => by unfold ow2; rw [if_neg (by omega)]), by rw [← hvx]; exact hvx ▸ Vr.mk' hw _ _ _, by unfold ow2; rw [if_pos (by omega)]⟩
  have hHA2 : H.new 58 6 [iv x.kind, iv x.who, iv x.age, iv x.at', iv x.value, iv x.from'] = HA := hHA.symm
  have L := BL.of A.bk.vp A.bk.pl
  have wA := A.bk.on.wf
  have a2 : HA.load ⟨vx, 2, none⟩ = some (iv x.age) := A.v.load 2
  have lc := L.lc
  obtain ⟨yr, yw, yo, yi, TA⟩ := A.bk.at h200 ht hq
  have hT := holds_T wA (p := p) L.lm A.bk.m TA.vq TA.r (fun c hc => by have := tok.r c hc; have := sok.mem; omega) (by have := tok.lr; omega)
  obtain ⟨R, hR⟩ : ∃ R, R = (if x.age = S.count ∧ holdsV S.mem t.reads = true then some (commitV J S a t) else none) := ⟨_, rfl⟩
  rw [← hR]
  obtain ⟨c1, hc1⟩ : ∃ b, b = (x.age != (S.count : Int)) := ⟨_, rfl⟩
  cases c1 with
  | true =>
    have hne : x.age ≠ S.count := bne_iff_ne.1 hc1.symm
    rw [if_neg (by simp [hne])] at hR
    simp [L43, hHA2, ← hvx, a2, lc, ← hc1]
    exact ⟨A.bk.on, .inl ⟨hR, rfl⟩⟩
  | false =>
  have heq : x.age = S.count := by simpa using hc1.symm
  cases hh : holdsV S.mem t.reads with
  | false =>
    rw [hh] at hT
    rw [if_neg (by simp [hh])] at hR
    simp [L43, hHA2, ← hvx, a2, lc, ← hc1]
    refine goT_of hT ?_
    simp
    exact ⟨A.bk.on, .inl ⟨hR, rfl⟩⟩
  | true =>
  rw [hh] at hT
  rw [if_pos ⟨heq, hh⟩] at hR
  have lm := L.lm
  have w1 : 1 ≤ J.words ∧ J.words ≤ 64 := by
    unfold validE at hv
    split at hv
    · rename_i h; exact absurd hv h
    · rename_i h
      simp only [ne_eq, Decidable.not_not] at h
      unfold ofE at h
      split at h
      · cases h
      · omega
  have mne : S.mem.length ≠ 0 := by have := sok.mem; omega
  have src := (Own.ints A.bk.m).src
  have ap := append_nil (ety := 2) (bytes := 8) src mne (by have := sok.mem; omega)
  obtain ⟨r, hr⟩ : ∃ r, r = HA.next := ⟨_, rfl⟩
  obtain ⟨HB, hHB⟩ : ∃ HB, HB = HA.new 2 1 (S.mem.map (.int .i64)) := ⟨_, rfl⟩
  rw [← hHB, ← hr] at ap
  have onB : On HA HB := by rw [hHB]; exact (On.refl wA).new _ _ _
  have vrB : Vr HB r 2 1 (ci S.mem) := by rw [hHB, hr]; exact Vr.mk' wA _ _ _
  have TB := TA.vq.on wA onB
  have qB : HB.load ⟨q, 1, none⟩ = some yw := TB.load 1
  have ywB := Own.on wA TA.w onB
  obtain ⟨aw, hyw⟩ := TA.w.len
  simp [L43, hHA2, ← hvx, a2, lc, ← hc1]
  refine goT_of hT ?_
  simp [lm, ap, qB]
  rw [hyw]
  simp
  rw [← hyw]
  refine write_loop onB.wf vrB ywB (fun b hb e => by have := TA.w.lt wA hb; omega) (fun c hc => by have := tok.w c hc; have := sok.mem; omega) (by have := tok.lw; omega) (by simp) (by simp [hyw]) (by simp) (by simp) ?_
  intro t1 H1 u0 u2 u4 u7 fr v1
  simp at u0 u2 u4 u7
  have w1' := fr.wf
  have on1 : On HA H1 := ⟨fr.wf, fr.base.trans onB.base, Nat.le_trans onB.next fr.next, fun b hb => by rw [fr.keep b (Nat.lt_of_lt_of_le hb onB.next) (by omega), onB.keep b hb]⟩
  obtain ⟨ow1, how1⟩ : ∃ o : Nat → Nat, o = fun b => if r ≤ b then 2001 else owA b := ⟨_, rfl⟩
  have lpA := A.bk.lp
  have B1 := A.bk.grow on1 (ow' := ow1) (fun b hb => by rw [how1]; simp only; rw [if_neg (by omega)])
  have nr1 : r < H1.next := by have := on1.next; have := fr.wf.lt v1.bq; omega
  -- the memory
  obtain ⟨xm', hxm'⟩ : ∃ y : Value, y = .slice (some ⟨r, 0, none⟩) S.mem.length 0 := ⟨_, rfl⟩
  obtain ⟨S1, hS1⟩ : ∃ S1, S1 = { S with mem := setM S.mem t.writes } := ⟨_, rfl⟩
  have B2 := B1.step (H3 := H1) w1' rfl (Nat.le_refl _) (fun _ _ _ => rfl) (ow' := ow1) (fun _ _ => rfl) (S' := S1) (pt' := pt) (xm' := xm') (xo' := xo) (xr' := xr)
    (by rw [hS1, hxm', show S.mem.length = (setM S.mem t.writes).length from (setM_len _ _).symm]; exact Own.mk (by simp [ci]) v1.hq v1.bq) (by rw [hS1]; exact B1.o) (by rw [hS1]; exact B1.r)
    (fun b hb => by rw [hxm'] at hb; simp at hb; rw [how1]; simp only; rw [if_pos (by omega)]) B1.lo B1.lr B1.pl (by rw [hS1]; exact B1.tl) (fun i hi => .inr ⟨by rw [hS1], rfl⟩)
  have s1 : H1.store ⟨p, 212, none⟩ xm' = some (H1.put p (bkC J n pt xm' xo xr S1 false)) := by
    rw [B1.vp.store (212 + 0) xm' (by rw [bkC_len _ _ _ _ _ _ _ _ B1.pl]; omega), bkC_tail _ _ _ _ _ _ _ _ B1.pl, hS1]; rfl
  obtain ⟨H2, hH2⟩ : ∃ H2, H2 = H1.put p (bkC J n pt xm' xo xr S1 false) := ⟨_, rfl⟩
  rw [← hH2] at s1 B2
  have L1 := BL.of B1.vp B1.pl
  have L2 := BL.of B2.vp B2.pl
  have lw1 := L1.lw
  have lo2 := L2.lo
  have w2 := B2.on.wf
  obtain ⟨yr2, yw2, yo2, yi2, T2⟩ := B2.at h200 (by rw [hS1]; exact ht) hq
  have q2 : H2.load ⟨q, 2, none⟩ = some yo2 := T2.vq.load 2
  have so : S1.outs = S.outs := by rw [hS1]
  -- what was put out
  obtain ⟨ao, H3, apo, G3⟩ := Og.pour w2 B2.o (Own.ints T2.o).src (by simp) (bytes := 8) (by have := sok.outs; have := tok.lo; have : k * k ≤ 300 * 300 := Nat.mul_le_mul hk hk; rw [so]; omega)
  obtain ⟨xo', hxo'⟩ : ∃ y : Value, y = .slice ao (S1.outs.length + t.outs.length) 0 := ⟨_, rfl⟩
  rw [← hxo'] at apo G3
  obtain ⟨S2, hS2⟩ : ∃ S2, S2 = { S1 with outs := S.outs ++ t.outs } := ⟨_, rfl⟩
  obtain ⟨ow2', how2⟩ : ∃ o : Nat → Nat, o = fun b => if H2.next ≤ b then 2002 else ow1 b := ⟨_, rfl⟩
  have ho2 : ∀ b, b < H2.next → ow2' b = ow1 b := fun b hb => by rw [how2]; simp only; rw [if_neg (by omega)]
  have k3 : ∀ b, b < H2.next → ow1 b ≠ 2002 → H3.blk b = H2.blk b := fun b hb h2 => G3.same b hb (fun e => h2 (B2.lo b e))
  have B4 := B2.step G3.wf G3.base G3.next k3 ho2 (S' := S2) (pt' := pt) (xm' := xm') (xo' := xo') (xr' := xr)
    (by rw [hS2]; exact B2.m.keep (B_eq G3.base) (fun b hb => k3 b (B2.m.lt w2 hb) (by have := B2.lm b hb; omega)))
    (by rw [hS2]; have := G3.own; rw [so] at this; simp only [List.length_append, R14.ci_append]; exact this)
    (by rw [hS2]; exact B2.r.keep (B_eq G3.base) (fun b hb => k3 b (B2.r.lt w2 hb) (by have := B2.lr b hb; omega)))
    (fun b hb => by rw [ho2 b (B2.m.lt w2 hb)]; exact B2.lm b hb) (fun b hb => by
      rcases G3.old b hb with h | h
      · rw [ho2 b (B2.o.lt w2 h)]; exact B2.lo b h
      · rw [how2]; simp only; rw [if_pos h])
    (fun b hb => by rw [ho2 b (B2.r.lt w2 hb)]; exact B2.lr b hb) B2.pl (by rw [hS2]; exact B2.tl) (fun i hi => .inr ⟨by rw [hS2], rfl⟩)
  have vp3 : Vr H3 p 81 220 (bkC J n pt xm' xo xr S1 false) := B2.vp.keep G3.base (k3 p (w2.lt B2.vp.bq) (by have := B2.lp; omega))
  have s3 : H3.store ⟨p, 213, none⟩ xo' = some (H3.put p (bkC J n pt xm' xo' xr S2 false)) := by
    rw [vp3.store (212 + 1) xo' (by rw [bkC_len _ _ _ _ _ _ _ _ B2.pl]; omega), bkC_tail _ _ _ _ _ _ _ _ B2.pl, hS2]; rfl
  obtain ⟨H4, hH4⟩ : ∃ H4, H4 = H3.put p (bkC J n pt xm' xo' xr S2 false) := ⟨_, rfl⟩
  rw [← hH4] at s3 B4
  have w4 := B4.on.wf
  have l24 := (BL.of B4.vp B4.pl).l2
  -- what was put in
  have chk : R14.chkC J.reds = 0 := by
    unfold validE at hv
    split at hv
    · rename_i h; exact absurd hv h
    · split at hv
      · rename_i h; exact absurd hv h
      · rename_i h; simpa using h
  obtain ⟨v5, H5, nT, w5, b5, n5, k5, hq5⟩ := R14.new_T w4 (ok.xr.keep hw0 B4.on.base B4.on.keep)
  unfold R14.NewQ at hq5
  unfold R14.chkC at chk
  have r4 : ¬ 4 < J.reds.length := fun h => by rw [if_pos h] at chk; cases chk
  rw [if_neg r4] at chk hq5
  have rall : J.reds.all (fun r => R14.right r.1) = true := by
    cases hb : J.reds.all (fun r => R14.right r.1) with
    | true => rfl
    | false => rw [hb] at chk; cases chk
  rw [if_pos rall] at hq5
  obtain ⟨ph, xoh, xnh, rfl, NW⟩ := hq5
  have on5 : On H4 H5 := ⟨w5, b5, n5, k5⟩
  have B5 := B4.grow on5 (ow' := ow2') (fun _ _ => rfl)
  obtain ⟨yr5, yw5, yo5, yi5, T4⟩ := B4.at h200 (by rw [hS2, hS1]; exact ht) hq
  have T5 : TrH H5 ow2' a q t yr5 yw5 yo5 yi5 := T4.keep w4 b5 (fun b hb _ _ => k5 b hb) (fun _ _ => rfl)
  have q5 : H5.load ⟨q, 3, none⟩ = some yi5 := T5.vq.load 3
  obtain ⟨ai, hyi5⟩ := T5.n.len
  have u7' : t1 7 = xm' := by rw [u7, hxm']
  have s1' : sStore H1 1 (.pointer (some ⟨p, 212, none⟩)) xm' = some H2 := by rw [hxm'] at s1 ⊢; simp [s1]
  have s3' : sStore H3 1 (.pointer (some ⟨p, 213, none⟩)) xo' = some H4 := by rw [hxo'] at s3 ⊢; simp [s3]
  simp [u0, u2, u4, u7', lw1, s1', lo2, q2, apo, s3', l24]
  refine goT_of nT ?_
  obtain ⟨ops, hops⟩ : ∃ o, o = J.reds.map Prod.fst := ⟨_, rfl⟩
  have hp5 : R14.HP H5 H4.next H5.next ph ops (zer ops) 0 xoh xnh := by
    have h := NW.hp
    have e1 : zer ops = J.reds.map fun r => R14.zeroV r.1 := by rw [hops]; simp [zer]
    rw [e1, hops]
    exact h
  have hol : ops.length = J.reds.length := by rw [hops]; simp
  simp [u2, q5]
  rw [hyi5]
  simp
  rw [← hyi5]
  refine add_loop w5 hp5 (by simp [zer]) (by omega) T5.n (fun b hb => .inl (T4.n.lt w4 hb)) (Nat.le_refl _) (by have := tok.ln; omega) (by simp) (by simp [hyi5]) (by simp) (by simp) ?_
  intro t6 H6 many v0 v2 v4 v10 w6 b6 n6 k6 h6
  simp [u0, u2, u4] at v0 v2 v4 v10
  have on46 : On H4 H6 := ⟨w6, b6.trans b5, Nat.le_trans n5 n6, fun b hb => by rw [k6 b (Nat.lt_of_lt_of_le hb n5) (.inl hb), k5 b hb]⟩
  have B6 := B4.grow on46 (ow' := ow2') (fun _ _ => rfl)
  have lr6 := (BL.of B6.vp B6.pl).lr
  have sr : S2.reds = S.reds := by rw [hS2, hS1]
  obtain ⟨v7, H7, oT, hQ⟩ := R14.onto_T w6 h6 (by rw [adds_len]; simp [zer]) (by omega) n6 (Own.ints B6.r) (by rw [sr, sok.reds]; omega)
  unfold R14.OntoQ at hQ
  rw [if_pos (by rw [adds_len, sr, sok.reds]; simp [zer, hol])] at hQ
  obtain ⟨xr', rfl, G7⟩ := hQ
  have os7 := R14.Og.olds G7
  obtain ⟨S3, hS3⟩ : ∃ S3, S3 = { S2 with reds := ontoN ops S2.reds (addsV ops t.intos) ops.length } := ⟨_, rfl⟩
  obtain ⟨ow3, how3⟩ : ∃ o : Nat → Nat, o = fun b => if H6.next ≤ b then 2003 else ow2' b := ⟨_, rfl⟩
  have ho3 : ∀ b, b < H6.next → ow3 b = ow2' b := fun b hb => by rw [how3]; simp only; rw [if_neg (by omega)]
  have B8 := B6.step G7.wf G7.base G7.next (fun b hb _ => os7 b hb) ho3 (S' := S3) (pt' := pt) (xm' := xm') (xo' := xo') (xr' := xr')
    (by rw [hS3]; exact B6.m.keep (B_eq G7.base) (fun b hb => os7 b (B6.m.lt w6 hb))) (by rw [hS3]; exact B6.o.keep (B_eq G7.base) (fun b hb => os7 b (B6.o.lt w6 hb)))
    (by rw [hS3]; simp only [R14.ontoN_len]; exact G7.own)
    (fun b hb => by rw [ho3 b (B6.m.lt w6 hb)]; exact B6.lm b hb) (fun b hb => by rw [ho3 b (B6.o.lt w6 hb)]; exact B6.lo b hb) (fun b hb => by
      rcases G7.old b hb with h | h
      · cases h
      · rw [how3]; simp only; rw [if_pos h]) B6.pl (by rw [hS3]; exact B6.tl) (fun i hi => .inr ⟨by rw [hS3], rfl⟩)
  have vp7 : Vr H7 p 81 220 (bkC J n pt xm' xo' xr S2 false) := B6.vp.keep G7.base (os7 p (w6.lt B6.vp.bq))
  have s7 : sStore H7 1 (.pointer (some ⟨p, 214, none⟩)) xr' = some (H7.put p (bkC J n pt xm' xo' xr' S3 false)) := by
    obtain ⟨ar, har⟩ := G7.own.len
    have h : H7.store ⟨p, 214, none⟩ xr' = some (H7.put p (bkC J n pt xm' xo' xr' S3 false)) := by
      rw [vp7.store (212 + 2) xr' (by rw [bkC_len _ _ _ _ _ _ _ _ B6.pl]; omega), bkC_tail _ _ _ _ _ _ _ _ B6.pl, hS3]; rfl
    rw [har] at h ⊢; simp [h]
  obtain ⟨H8, hH8⟩ : ∃ H8, H8 = H7.put p (bkC J n pt xm' xo' xr' S3 false) := ⟨_, rfl⟩
  rw [← hH8] at s7 B8
  have w8 := B8.on.wf
  have lc8 := (BL.of B8.vp B8.pl).lc
  have sc : S3.count = S.count := by rw [hS3, hS2, hS1]
  -- one more
  obtain ⟨S4, hS4⟩ : ∃ S4, S4 = { S3 with count := S3.count + 1 } := ⟨_, rfl⟩
  have B9 := B8.step (H3 := H8) w8 rfl (Nat.le_refl _) (fun _ _ _ => rfl) (ow' := ow3) (fun _ _ => rfl) (S' := S4) (pt' := pt) (xm' := xm') (xo' := xo') (xr' := xr') (by rw [hS4]; exact B8.m) (by rw [hS4]; exact B8.o) (by rw [hS4]; exact B8.r) B8.lm B8.lo B8.lr B8.pl (by rw [hS4]; exact B8.tl) (fun i hi => .inr ⟨by rw [hS4], rfl⟩)
  have e8 : IntKind.i64.wrap ((S3.count : Int) + 1) = ((S3.count + 1 : Nat) : Int) := by rw [w64 _ (by have := sok.cnt; omega)]; omega
  have s8 : H8.store ⟨p, 218, none⟩ (iv ((S3.count + 1 : Nat) : Int)) = some (H8.put p (bkC J n pt xm' xo' xr' S4 false)) := by
    rw [B8.vp.store (212 + 6) (iv ((S3.count + 1 : Nat) : Int)) (by rw [bkC_len _ _ _ _ _ _ _ _ B8.pl]; omega), bkC_tail _ _ _ _ _ _ _ _ B8.pl, hS4]; rfl
  obtain ⟨H9, hH9⟩ : ∃ H9, H9 = H8.put p (bkC J n pt xm' xo' xr' S4 false) := ⟨_, rfl⟩
  rw [← hH9] at s8 B9
  have w9 := B9.on.wf
  -- the attempt is over
  obtain ⟨S5, hS5⟩ : ∃ S5, S5 = { S4 with tries := S4.tries.set a none } := ⟨_, rfl⟩
  have B10 := B9.step (H3 := H9) w9 rfl (Nat.le_refl _) (fun _ _ _ => rfl) (ow' := ow3) (fun _ _ => rfl) (S' := S5) (pt' := pt.set a (.pointer none)) (xm' := xm') (xo' := xo') (xr' := xr') (by rw [hS5]; exact B9.m) (by rw [hS5]; exact B9.o) (by rw [hS5]; exact B9.r) B9.lm B9.lo B9.lr (by simp [B9.pl]) (by rw [hS5]; simp [B9.tl]) (fun i hi => by
    by_cases e : a = i
    · subst e
      exact .inl ⟨by rw [hS5]; simp [List.getElem?_set, B9.tl, h200], by simp [List.getElem?_set, B9.pl, h200]⟩
    · exact .inr ⟨by rw [hS5]; simp [List.getElem?_set, e], by simp [List.getElem?_set, e]⟩)
  have s9 : H9.store ⟨p, 12 + a, none⟩ (.pointer none) = some (H9.put p (bkC J n (pt.set a (.pointer none)) xm' xo' xr' S5 false)) := by
    rw [B9.vp.store (12 + a) (.pointer none) (by rw [bkC_len _ _ _ _ _ _ _ _ B9.pl]; omega), bkC_set _ _ _ _ _ _ _ _ (by rw [B9.pl]; exact h200), hS5]
  obtain ⟨H10, hH10⟩ : ∃ H10, H10 = H9.put p (bkC J n (pt.set a (.pointer none)) xm' xo' xr' S5 false) := ⟨_, rfl⟩
  rw [← hH10] at s9 B10
  have fin : S5 = commitV J S a t := by
    rw [hS5, hS4, hS3, hS2, hS1]
    unfold commitV
    rw [hops]
    simp
  -- the event's variable
  have lvx := A.lx
  have bvx := wA.lt A.v.bq
  have nvp : vx ≠ p := fun e => by rw [e] at lvx; omega
  have o1x : ow1 vx = 7777 := by rw [how1]; simp only; rw [if_neg (by omega)]; exact lvx
  have vx1 : Vr H1 vx 58 6 (evC x) := A.v.on wA on1
  have vx2 : Vr H2 vx 58 6 (evC x) := by rw [hH2]; exact vx1.beside nvp _
  have vx3 : Vr H3 vx 58 6 (evC x) := vx2.keep G3.base (k3 vx (w2.lt vx2.bq) (by omega))
  have vx4 : Vr H4 vx 58 6 (evC x) := by rw [hH4]; exact vx3.beside nvp _
  have vx6 : Vr H6 vx 58 6 (evC x) := vx4.on w4 on46
  have vx7 : Vr H7 vx 58 6 (evC x) := vx6.keep G7.base (os7 vx (w6.lt vx6.bq))
  have vx8 : Vr H8 vx 58 6 (evC x) := by rw [hH8]; exact vx7.beside nvp _
  have vx9 : Vr H9 vx 58 6 (evC x) := by rw [hH9]; exact vx8.beside nvp _
  have a9 : H9.load ⟨vx, 2, none⟩ = some (iv x.age) := vx9.load 2
  have ix : sIdxArr 200 1 (.pointer (some ⟨p, 12, none⟩)) (iv x.age) = some (.pointer (some ⟨p, 12 + a, none⟩)) := by
    rw [ha]
    have c1 : (0 : Int) ≤ a ∧ (a : Int) < 200 := by omega
    simp [sIdxArr, c1, add_own, h200]
  obtain ⟨c9, hc9⟩ : ∃ c : Nat, c = S3.count + 1 := ⟨_, rfl⟩
  rw [← hc9] at e8 s8
  simp [v0, v10, lr6]
  refine goT_of oT ?_
  simp [v0, v4, s7, lc8, e8, s8, a9, ix, s9]
  exact ⟨B10.on, .inr ⟨_, _, _, _, _, _, by rw [hR, ← fin], rfl, B10⟩⟩
theorem Vr.storeMid {G : Heap} {q ty n : Nat} {pre mid post new : List Value} (h : Vr G q ty n (pre ++ (mid ++ post))) (hl : new.length = mid.length) (h0 : 0 < new.length) : sStore G new.length (.pointer (some ⟨q, pre.length, none⟩)) (.agg new.toArray) = some (G.put q (pre ++ (new ++ post))) := by
  have hz := h.hn
  rw [sStore_agg _ _ _ _ rfl h0, storeN_at h.hq h.bq (by simp; omega)]
  congr 2
  simp only [Nat.add_zero]
  rw [List.take_append_of_le_length (Nat.le_refl _), List.take_length, List.append_assoc]
  congr 2
  rw [← List.append_assoc, show pre.length + new.length = (pre ++ mid).length by simp [hl], List.drop_left]
theorem fault_N {H0 H : Heap} {p : Nat} {ow : Nat → Nat} {J : Jb} {n : Int} {S : BS} {pt : List Value} {xm xo xr : Value} (B : BK H0 H p ow J n false S pt xm xo xr) {k : Nat} (sok : SOk J k S) (hk : k ≤ 300)
    {x : Ev} {a : Nat} (ha : x.age = (a : Int)) (h200 : a < 200) {t : Tr} {q : Nat} {yr yw yo yi : Value} (ht : S.tries[a]? = some (some t)) (hq : pt[a]? = some (ptr q)) (T : TrH H ow a q t yr yw yo yi) :
    TE Try.prog 44 [ptr p, .agg (evC x).toArray, ptr q] H (EvQ H0 p J n false (if x.age = S.count ∧ holdsV S.mem t.reads = true ∧ 2 ≤ x.at' ∧ x.at' ≤ 5 then some { S with fa := x.age, fo := x.at', fv := x.value } else none)) := by
  obtain ⟨R, hR⟩ : ∃ R, R = (if x.age = S.count ∧ holdsV S.mem t.reads = true ∧ 2 ≤ x.at' ∧ x.at' ≤ 5 then some { S with fa := x.age, fo := x.at', fv := x.value } else none) := ⟨_, rfl⟩
  rw [← hR]
  have hw := B.on.wf
  have tok := sok.tr a t ht
  obtain ⟨HA, hHA⟩ : ∃ HA, HA = H.new 58 6 (evC x) := ⟨_, rfl⟩
  obtain ⟨vx, hvx⟩ : ∃ vx, vx = H.next := ⟨_, rfl⟩
  obtain ⟨owA, howA⟩ : ∃ owA, owA = ow2 ow vx 7777 := ⟨_, rfl⟩
  have A : EA H0 HA p owA J n false S pt xm xo xr vx x := by
    rw [hHA, hvx, howA]
    exact ⟨B.grow ((On.refl hw).new _ _ _) (fun b hb => by unfold ow2; rw [if_neg (by omega)]), by rw [← hvx]; exact hvx ▸ Vr.mk' hw _ _ _, by unfold ow2; rw [if_pos (by omega)]⟩
  have hHA2 : H.new 58 6 [iv x.kind, iv x.who, iv x.age, iv x.at', iv x.value, iv x.from'] = HA := hHA.symm
  have L := BL.of A.bk.vp A.bk.pl
  have wA := A.bk.on.wf
  have a2 : HA.load ⟨vx, 2, none⟩ = some (iv x.age) := A.v.load 2
  have a3 : HA.load ⟨vx, 3, none⟩ = some (iv x.at') := A.v.load 3
  have a4 : HA.load ⟨vx, 4, none⟩ = some (iv x.value) := A.v.load 4
  have lc := L.lc
  have lw := L.lw
  obtain ⟨yr, yw, yo, yi, TA⟩ := A.bk.at h200 ht hq
  have hT := holds_T wA (p := p) L.lm A.bk.m TA.vq TA.r (fun c hc => by have := tok.r c hc; have := sok.mem; omega) (by have := tok.lr; omega)
  have bA : HA.base = H.base := by rw [hHA]; rfl
  have nA : H.next ≤ HA.next := by rw [hHA]; simp
  obtain ⟨c1, hc1⟩ : ∃ b, b = (x.age != (S.count : Int)) := ⟨_, rfl⟩
  cases c1 with
  | true =>
    have hne : x.age ≠ S.count := bne_iff_ne.1 hc1.symm
    rw [if_neg (by simp [hne])] at hR
    refine TE_X hm lightX44 (v := .bool false) (H' := HA) bA nA (fun _ => wA) ⟨A.bk.on, .inl ⟨hR, rfl⟩⟩ ?_
    simp [L44, hHA2, ← hvx, a2, a3, lc, ← hc1, packV]
    exact ⟨[], rfl⟩
  | false =>
  have heq : x.age = S.count := by simpa using hc1.symm
  cases hh : holdsV S.mem t.reads with
  | false =>
    rw [hh] at hT
    rw [if_neg (by simp [hh])] at hR
    refine TE_X hm lightX44 (v := .bool false) (H' := HA) bA nA (fun _ => wA) ⟨A.bk.on, .inl ⟨hR, rfl⟩⟩ ?_
    simp [L44, hHA2, ← hvx, a2, a3, lc, ← hc1]
    refine goT_of hT ?_
    simp [packV]
    exact ⟨[], rfl⟩
  | true =>
  rw [hh] at hT
  by_cases g1 : x.at' < 2
  · rw [if_neg (by intro h; omega)] at hR
    refine TE_X hm lightX44 (v := .bool false) (H' := HA) bA nA (fun _ => wA) ⟨A.bk.on, .inl ⟨hR, rfl⟩⟩ ?_
    simp [L44, hHA2, ← hvx, a2, a3, lc, ← hc1]
    refine goT_of hT ?_
    simp [g1, packV]
    exact ⟨[], rfl⟩
  by_cases g2 : 5 < x.at'
  · rw [if_neg (by intro h; omega)] at hR
    refine TE_X hm lightX44 (v := .bool false) (H' := HA) bA nA (fun _ => wA) ⟨A.bk.on, .inl ⟨hR, rfl⟩⟩ ?_
    simp [L44, hHA2, ← hvx, a2, a3, lc, ← hc1]
    refine goT_of hT ?_
    simp [g1, g2, packV]
    exact ⟨[], rfl⟩
  rw [if_pos ⟨heq, hh, by omega, by omega⟩] at hR
  obtain ⟨S1, hS1⟩ : ∃ S1, S1 = { S with fa := x.age, fo := x.at', fv := x.value } := ⟨_, rfl⟩
  have B1 := A.bk.step (H3 := HA) wA rfl (Nat.le_refl _) (fun _ _ _ => rfl) (ow' := owA) (fun _ _ => rfl) (S' := S1) (pt' := pt) (xm' := xm) (xo' := xo) (xr' := xr) (by rw [hS1]; exact A.bk.m) (by rw [hS1]; exact A.bk.o) (by rw [hS1]; exact A.bk.r) A.bk.lm A.bk.lo A.bk.lr A.bk.pl (by rw [hS1]; exact A.bk.tl) (fun i hi => .inr ⟨by rw [hS1], rfl⟩)
  have e0 : ∀ Z : BS, bkC J n pt xm xo xr Z false = (jobC J ++ (iv n :: (pt ++ [xm, xo, xr]))) ++ ([iv Z.fa, iv Z.fo, iv Z.fv] ++ [iv Z.count, .bool false]) := fun Z => by simp [bkC]
  have pre : (jobC J ++ (iv n :: (pt ++ [xm, xo, xr]))).length = 215 := by simp [A.bk.pl]
  have vp := A.bk.vp
  rw [e0] at vp
  have st := vp.storeMid (new := [iv x.age, iv x.at', iv x.value]) rfl (by simp)
  rw [pre] at st
  have e1 : (jobC J ++ (iv n :: (pt ++ [xm, xo, xr]))) ++ ([iv x.age, iv x.at', iv x.value] ++ [iv S.count, .bool false]) = bkC J n pt xm xo xr S1 false := by rw [e0, hS1]
  rw [e1] at st
  obtain ⟨HB, hHB⟩ : ∃ HB, HB = HA.put p (bkC J n pt xm xo xr S1 false) := ⟨_, rfl⟩
  rw [← hHB] at st B1
  have st' : sStore HA 3 (.pointer (some ⟨p, 215, none⟩)) (.agg #[iv x.age, iv x.at', iv x.value]) = some HB := st
  refine TE_X hm lightX44 (v := .bool true) (H' := HB) (by rw [hHB]; exact bA) (by rw [hHB]; simpa using nA) (fun _ => by rw [hHB]; exact WF_put wA _ _) ⟨B1.on, .inr ⟨_, _, _, _, _, _, by rw [hR, hS1], rfl, B1⟩⟩ ?_
  simp [L44, hHA2, ← hvx, a2, a3, lc, ← hc1]
  refine goT_of hT ?_
  simp [g1, g2, lw, a2, a4, st', packV]
  exact ⟨[], rfl⟩
end Go.Proofs.Ytjkfghekdcalhaa
