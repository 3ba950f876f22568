/-
  Chapter 27: a task commits; a task is an error. Chapter 27: a task is an error.
-/
import Derived.Test.YtjkfghekdcalhaaSeatVO
import Derived.Test.YtjkfghekdcalhaaOtZb
namespace Go.Proofs.Ytjkfghekdcalhaa
open Go.Ot Go.RowKit
open R14 (Twos ci joinV addN ontoN)
set_option linter.unusedSimpArgs false
set_option linter.unusedVariables false
/-- What comes of an event that is of a task that may go on (wh: each task is run again). -/
def stepR (wh : Bool) (J : Jb) (S : BS) (a : Nat) (x : Ev) : Option BS :=
  if x.kind = 1 then (if S.tries[a]? = some none ∧ 0 ≤ x.who ∧ x.who < 8 then some { S with tries := S.tries.set a (some Tr.none) } else none)
  else match S.tries[a]? with
  | some (some t) =>
    if x.kind = 2 then (if wordB J.words x.at' = true ∧ -1 ≤ x.from' ∧ x.from' < x.age then some { S with tries := S.tries.set a (some { t with reads := t.reads ++ [(x.at', x.value)] }) } else none)
    else if x.kind = 3 then (if wordB J.words x.at' = true then some { S with tries := S.tries.set a (some { t with writes := t.writes ++ [(x.at', x.value)] }) } else none)
    else if x.kind = 4 then some { S with tries := S.tries.set a (some { t with outs := t.outs ++ [x.value] }) }
    else if x.kind = 5 then (if wordB J.reds.length x.at' = true then some { S with tries := S.tries.set a (some { t with intos := t.intos ++ [(x.at', x.value)] }) } else none)
    else if x.kind = 6 then some { S with tries := S.tries.set a (some Tr.none) }
    else if x.kind = 7 then (if x.age = S.count ∧ holdsV S.mem t.reads = true ∧ (wh = true → sameV (taskV J x.age S.mem) t (setM S.mem t.writes) = true) then some (commitV J S a t) else none)
    else if x.kind = 8 then (if x.age = S.count ∧ holdsV S.mem t.reads = true ∧ 2 ≤ x.at' ∧ x.at' ≤ 5 ∧ (wh = true → (taskV J x.age S.mem).1.over = x.at' ∧ (taskV J x.age S.mem).1.value = x.value) then some { S with fa := x.age, fo := x.at', fv := x.value } else none)
    else none
  | _ => none
/-- May this happen now, and what is told then. -/
def stepE (wh : Bool) (J : Jb) (n : Int) (S : BS) (x : Ev) : Option BS :=
  if S.fo ≠ 0 ∨ x.age < S.count ∨ n ≤ x.age ∨ leanV x = false then none else stepR wh J S x.age.toNat x
theorem BK.at {H0 H : Heap} {p : Nat} {ow : Nat → Nat} {J : Jb} {n : Int} {wh : Bool} {S : BS} {pt : List Value} {xm xo xr : Value} (B : BK H0 H p ow J n wh S pt xm xo xr) {a q : Nat} {t : Tr} (h200 : a < 200) (ht : S.tries[a]? = some (some t)) (hq : pt[a]? = some (ptr q)) : ∃ yr yw yo yi, TrH H ow a q t yr yw yo yi := by
  rcases B.tr a h200 with ⟨h1, _⟩ | ⟨t2, q2, yr, yw, yo, yi, h1, h2, h3⟩
  · rw [ht] at h1; cases h1
  · rw [ht] at h1
    rw [hq] at h2
    cases h1
    simp only [Option.some.injEq, Value.pointer.injEq, Addr.mk.injEq, and_true] at h2
    subst h2
    exact ⟨yr, yw, yo, yi, h3⟩
/-- What is told of all is told anew; of the attempts some may be taken away. -/
theorem BK.step {H0 H : Heap} {p : Nat} {ow : Nat → Nat} {J : Jb} {n : Int} {wh : Bool} {S : BS} {pt : List Value} {xm xo xr : Value} (B : BK H0 H p ow J n wh S pt xm xo xr) {H3 : Heap} (w3 : H3.WF) (b3 : H3.base = H.base) (n3 : H.next ≤ H3.next)
    (k3 : ∀ b, b < H.next → ow b ≠ 2002 → H3.blk b = H.blk b) {ow' : Nat → Nat} (ho : ∀ b, b < H.next → ow' b = ow b) {S' : BS} {pt' : List Value} {xm' xo' xr' : Value} (m' : Own H3 2 1 S'.mem.length (ci S'.mem) xm') (o' : Own H3 2 1 S'.outs.length (ci S'.outs) xo') (r' : Own H3 2 1 S'.reds.length (ci S'.reds) xr')
    (lm' : ∀ b, blkOf xm' = some b → ow' b = 2001) (lo' : ∀ b, blkOf xo' = some b → ow' b = 2002) (lr' : ∀ b, blkOf xr' = some b → ow' b = 2003) (pl' : pt'.length = 200) (tl' : S'.tries.length = 200)
    (tr' : ∀ i, i < 200 → (S'.tries[i]? = some none ∧ pt'[i]? = some (.pointer none)) ∨ (S'.tries[i]? = S.tries[i]? ∧ pt'[i]? = pt[i]?)) : BK H0 (H3.put p (bkC J n pt' xm' xo' xr' S' wh)) p ow' J n wh S' pt' xm' xo' xr' := by
  have hw := B.on.wf
  have bp := hw.lt B.vp.bq
  have lp := B.lp
  have h0n := B.on.next
  have p0 : H0.next ≤ p := by
    by_cases h : p < H0.next
    · have := B.old p h; omega
    · omega
  have vp3 : Vr H3 p 81 220 (bkC J n pt xm xo xr S wh) := B.vp.keep b3 (k3 p bp (by omega))
  have on3 : On H0 H3 := ⟨w3, b3.trans B.on.base, Nat.le_trans h0n n3, fun b hb => by rw [k3 b (by omega) (by have := B.old b hb; omega), B.on.keep b hb]⟩
  have kp : ∀ {ety sz m : Nat} {cs : List Value} {y : Value} (h : Own H3 ety sz m cs y), (∀ b, blkOf y = some b → b ≠ p) → Own (H3.put p (bkC J n pt' xm' xo' xr' S' wh)) ety sz m cs y := fun h h1 => h.keep (by simp) (fun b hb => by simp [h1 b hb])
  have lp' : ow' p = 2000 := by rw [ho p bp]; exact lp
  refine ⟨on3.put p0 _, vp3.put _, lp', fun b hb => by rw [ho b (by omega)]; exact B.old b hb, kp m' (fun b hb e => by have := lm' b hb; rw [e] at this; omega), kp o' (fun b hb e => by have := lo' b hb; rw [e] at this; omega), kp r' (fun b hb e => by have := lr' b hb; rw [e] at this; omega), lm', lo', lr', pl', tl', fun i hi => ?_⟩
  rcases tr' i hi with h | ⟨h1, h2⟩
  · exact .inl h
  · rw [h1, h2]
    rcases B.tr i hi with h | ⟨t, q2, a, b, c, d, h1, h2, h3⟩
    · exact .inl h
    · exact .inr ⟨t, q2, a, b, c, d, h1, h2, h3.keep hw (by simp [b3]) (fun b hb h4 h5 => by rw [← k3 b hb (by omega)]; simp [show b ≠ p from fun e => by rw [e] at h5; omega]) ho⟩
theorem bkC_tail (J : Jb) (n : Int) (pt : List Value) (xm xo xr : Value) (S : BS) (wh : Bool) (pl : pt.length = 200) (j : Nat) (v : Value) : (bkC J n pt xm xo xr S wh).set (212 + j) v = jobC J ++ (iv n :: (pt ++ ([xm, xo, xr, iv S.fa, iv S.fo, iv S.fv, iv S.count, .bool wh].set j v))) := by
  unfold bkC
  rw [List.set_append_right _ _ (by simp; omega), show 212 + j - (jobC J).length = (200 + j) + 1 from by simp; omega, List.set_cons_succ, List.set_append_right _ _ (by omega), pl, show 200 + j - 200 = j by omega]
theorem bkC_len (J : Jb) (n : Int) (pt : List Value) (xm xo xr : Value) (S : BS) (wh : Bool) (pl : pt.length = 200) : (bkC J n pt xm xo xr S wh).length = 220 := by simp [pl]
def L43t : LCode :=
 .seq (.region [⟨some 63, .move (.tmp 0), none⟩,
  ⟨some 64, .move (.tmp 7), none⟩,
  ⟨some 65, .nilCheck (.tmp 63), none⟩,
  ⟨some 66, .off 212 (.tmp 65), none⟩,
  ⟨some 67, .off 0 (.tmp 66), none⟩,
  ⟨none, .store 1 (.tmp 67) (.tmp 64), none⟩])
 (.seq (.draw [⟨⟨some 68, .move (.tmp 0), none⟩, .pure, 0, 1⟩,
  ⟨⟨some 69, .move (.tmp 0), none⟩, .pure, 0, 0⟩,
  ⟨⟨some 70, .nilCheck (.tmp 69), none⟩, .pure, 0, 0⟩,
  ⟨⟨some 71, .off 212 (.tmp 70), none⟩, .pure, 0, 0⟩,
  ⟨⟨some 72, .off 1 (.tmp 71), none⟩, .pure, 0, 0⟩,
  ⟨⟨some 73, .load false 1 (.tmp 72), none⟩, .read, 0, 0⟩,
  ⟨⟨some 74, .move (.tmp 2), none⟩, .pure, 0, 0⟩,
  ⟨⟨some 75, .nilCheck (.tmp 74), none⟩, .pure, 0, 0⟩,
  ⟨⟨some 76, .off 2 (.tmp 75), none⟩, .pure, 0, 0⟩,
  ⟨⟨some 77, .load false 1 (.tmp 76), none⟩, .read, 0, 0⟩,
  ⟨⟨some 78, .append 2 1 8 (.tmp 73) (.tmp 77), none⟩, .heavy, 0, 1⟩,
  ⟨⟨some 79, .nilCheck (.tmp 68), none⟩, .pure, 1, 1⟩,
  ⟨⟨some 80, .off 212 (.tmp 79), none⟩, .pure, 1, 1⟩,
  ⟨⟨some 81, .off 1 (.tmp 80), none⟩, .pure, 1, 1⟩,
  ⟨⟨none, .store 1 (.tmp 81) (.tmp 78), none⟩, .heavy, 1, 2⟩])
 (.seq (.region [⟨some 83, .move (.tmp 0), none⟩,
  ⟨some 84, .nilCheck (.tmp 83), none⟩,
  ⟨some 85, .off 0 (.tmp 84), none⟩,
  ⟨some 86, .off 2 (.tmp 85), none⟩,
  ⟨some 87, .load false 1 (.tmp 86), none⟩,
  ⟨some 88, .call 33 [.tmp 87], none⟩,
  ⟨some 82, .move (.tmp 88), none⟩,
  ⟨some 89, .extract (.tmp 82) 0, none⟩,
  ⟨some 90, .extract (.tmp 82) 1, none⟩,
  ⟨some 10, .move (.tmp 89), none⟩,
  ⟨some 11, .move (.tmp 90), none⟩])
 (.seq (.seq (.region [⟨some 91, .move (.tmp 2), none⟩,
  ⟨some 92, .nilCheck (.tmp 91), none⟩,
  ⟨some 93, .off 3 (.tmp 92), none⟩,
  ⟨some 94, .load false 1 (.tmp 93), none⟩,
  ⟨some 95, .len (.tmp 94), none⟩,
  ⟨some 96, .move (.const (.int .i64 0)), none⟩])
 (.block 2 (.loop L43_2)))
 (.seq (.region [⟨some 108, .move (.tmp 0), none⟩,
  ⟨some 109, .move (.tmp 10), none⟩,
  ⟨some 110, .move (.tmp 0), none⟩,
  ⟨some 111, .nilCheck (.tmp 110), none⟩,
  ⟨some 112, .off 212 (.tmp 111), none⟩,
  ⟨some 113, .off 2 (.tmp 112), none⟩,
  ⟨some 114, .load false 1 (.tmp 113), none⟩,
  ⟨some 115, .call 35 [.tmp 109, .tmp 114], none⟩,
  ⟨some 107, .move (.tmp 115), none⟩,
  ⟨some 116, .extract (.tmp 107) 0, none⟩,
  ⟨some 117, .extract (.tmp 107) 1, none⟩,
  ⟨some 118, .nilCheck (.tmp 108), none⟩,
  ⟨some 119, .off 212 (.tmp 118), none⟩,
  ⟨some 120, .off 2 (.tmp 119), none⟩,
  ⟨none, .store 1 (.tmp 120) (.tmp 116), none⟩])
 (.seq (.region [⟨some 121, .move (.tmp 0), none⟩,
  ⟨some 122, .nilCheck (.tmp 121), none⟩,
  ⟨some 123, .off 212 (.tmp 122), none⟩,
  ⟨some 124, .off 6 (.tmp 123), none⟩,
  ⟨some 125, .load false 1 (.tmp 124), none⟩,
  ⟨some 126, .bin .add (.tmp 125) (.const (.int .i64 1)), none⟩,
  ⟨some 127, .nilCheck (.tmp 121), none⟩,
  ⟨some 128, .off 212 (.tmp 127), none⟩,
  ⟨some 129, .off 6 (.tmp 128), none⟩,
  ⟨none, .store 1 (.tmp 129) (.tmp 126), none⟩])
 (.seq (.draw [⟨⟨some 130, .move (.tmp 0), none⟩, .pure, 0, 0⟩,
  ⟨⟨some 131, .off 2 (.tmp 4), none⟩, .pure, 0, 0⟩,
  ⟨⟨some 132, .load false 1 (.tmp 131), none⟩, .read, 0, 0⟩,
  ⟨⟨some 133, .nilCheck (.tmp 130), none⟩, .pure, 0, 0⟩,
  ⟨⟨some 134, .off 12 (.tmp 133), none⟩, .pure, 0, 0⟩,
  ⟨⟨some 135, .idxArr 200 1 (.tmp 134) (.tmp 132), none⟩, .pure, 0, 0⟩,
  ⟨⟨none, .store 1 (.tmp 135) (.const (.pointer none)), none⟩, .heavy, 0, 1⟩])
 (.seq (.region [⟨some 6, .move (.const (.bool true)), none⟩])
 (.ret))))))))
theorem L43_eq : L43 =
 .seq (.region [⟨some 4, .box 58 6 (.tmp 1), none⟩,
  ⟨some 6, .move (.const (.bool false)), none⟩])
 (.seq (.seq (.draw [⟨⟨some 14, .off 2 (.tmp 4), none⟩, .pure, 0, 0⟩,
  ⟨⟨some 15, .load false 1 (.tmp 14), none⟩, .read, 0, 0⟩,
  ⟨⟨some 16, .move (.tmp 0), none⟩, .pure, 0, 0⟩,
  ⟨⟨some 17, .nilCheck (.tmp 16), none⟩, .pure, 0, 0⟩,
  ⟨⟨some 18, .off 212 (.tmp 17), none⟩, .pure, 0, 0⟩,
  ⟨⟨some 19, .off 6 (.tmp 18), none⟩, .pure, 0, 0⟩,
  ⟨⟨some 20, .load false 1 (.tmp 19), none⟩, .read, 0, 0⟩,
  ⟨⟨some 21, .bin .neq (.tmp 15) (.tmp 20), none⟩, .pure, 0, 0⟩,
  ⟨⟨some 22, .move (.tmp 21), none⟩, .pure, 0, 0⟩,
  ⟨⟨some 23, .move (.tmp 0), (some (22, false))⟩, .pure, 0, 0⟩,
  ⟨⟨some 24, .move (.tmp 2), (some (22, false))⟩, .pure, 0, 0⟩,
  ⟨⟨some 25, .call 55 [.tmp 23, .tmp 24], (some (22, false))⟩, .heavy, 0, 1⟩,
  ⟨⟨some 26, .un .not (.tmp 25), (some (22, false))⟩, .pure, 1, 1⟩,
  ⟨⟨some 27, .pick (.tmp 22) (.const (.bool true)) (.tmp 26), none⟩, .pure, 1, 1⟩])
 (.cond (.tmp 27) (.seq (.region [⟨some 6, .move (.const (.bool false)), none⟩])
 (.ret))
 (.skip)))
 (.seq (.region [⟨some 28, .move (.tmp 0), none⟩,
  ⟨some 29, .nilCheck (.tmp 28), none⟩,
  ⟨some 30, .off 212 (.tmp 29), none⟩,
  ⟨some 31, .off 0 (.tmp 30), none⟩,
  ⟨some 32, .load false 1 (.tmp 31), none⟩,
  ⟨some 33, .append 2 1 8 (.const (.slice none 0 0)) (.tmp 32), none⟩,
  ⟨some 7, .move (.tmp 33), none⟩])
 (.seq (.seq (.region [⟨some 34, .move (.tmp 2), none⟩,
  ⟨some 35, .nilCheck (.tmp 34), none⟩,
  ⟨some 36, .off 1 (.tmp 35), none⟩,
  ⟨some 37, .load false 1 (.tmp 36), none⟩,
  ⟨some 38, .len (.tmp 37), none⟩,
  ⟨some 39, .move (.const (.int .i64 0)), none⟩])
 (.block 0 (.loop L43_1)))
 (.seq (.seq (.region [⟨some 50, .move (.tmp 0), none⟩,
  ⟨some 51, .nilCheck (.tmp 50), none⟩,
  ⟨some 52, .off 219 (.tmp 51), none⟩,
  ⟨some 53, .load false 1 (.tmp 52), none⟩,
  ⟨some 54, .move (.tmp 53), none⟩,
  ⟨some 55, .move (.tmp 0), (some (54, true))⟩,
  ⟨some 56, .off 2 (.tmp 4), (some (54, true))⟩,
  ⟨some 57, .load false 1 (.tmp 56), (some (54, true))⟩,
  ⟨some 58, .move (.tmp 2), (some (54, true))⟩,
  ⟨some 59, .move (.tmp 7), (some (54, true))⟩,
  ⟨some 60, .call 56 [.tmp 55, .tmp 57, .tmp 58, .tmp 59], (some (54, true))⟩,
  ⟨some 61, .un .not (.tmp 60), (some (54, true))⟩,
  ⟨some 62, .pick (.tmp 54) (.tmp 61) (.const (.bool false)), none⟩])
 (.cond (.tmp 62) (.seq (.region [⟨some 6, .move (.const (.bool false)), none⟩])
 (.ret))
 (.skip)))
 (L43t))))) := rfl
theorem commit_w {H0 H1 : Heap} (hw0 : H0.WF) {p : Nat} {ow1 : Nat → Nat} {J : Jb} {n : Int} {wh : Bool} {S : BS} {pt : List Value} {xm xo xr : Value} (B1 : BK H0 H1 p ow1 J n wh S pt xm xo xr) (ok : JbOk H0 J) {k : Nat} (sok : SOk J k S) (hk : k ≤ 300) (hv : validE J = 0)
    {x : Ev} {a : Nat} (ha : x.age = (a : Int)) (h200 : a < 200) {t : Tr} {q : Nat} (ht : S.tries[a]? = some (some t)) (hq : pt[a]? = some (ptr q)) {r vx : Nat} (v1 : Vr H1 r 2 1 (ci (setM S.mem t.writes))) (o1r : ow1 r = 2001) (vx1 : Vr H1 vx 58 6 (evC x)) (o1x : ow1 vx = 7777)
    {t1 : Tm} (u0 : t1 0 = ptr p) (u2 : t1 2 = ptr q) (u4 : t1 4 = ptr vx) (u7 : t1 7 = .slice (some ⟨r, 0, none⟩) S.mem.length 0) :
    wpA Try.prog L43t (EndA (fun v H' => EvQ H0 p J n wh (some (commitV J S a t)) (.ret v) H') [.tmp 6]) t1 (rdy H1) := by
  have tok := sok.tr a t ht
  have w1' := B1.on.wf
  obtain ⟨xm', hxm'⟩ : ∃ y : Value, y = .slice (some ⟨r, 0, none⟩) S.mem.length 0 := ⟨_, rfl⟩
  obtain ⟨S1, hS1⟩ : ∃ S1, S1 = { S with mem := setM S.mem t.writes } := ⟨_, rfl⟩
  have B2 := B1.step (H3 := H1) w1' rfl (Nat.le_refl _) (fun _ _ _ => rfl) (ow' := ow1) (fun _ _ => rfl) (S' := S1) (pt' := pt) (xm' := xm') (xo' := xo) (xr' := xr)
    (by rw [hS1, hxm', show S.mem.length = (setM S.mem t.writes).length from (setM_len _ _).symm]; exact Own.mk (by simp [ci]) v1.hq v1.bq) (by rw [hS1]; exact B1.o) (by rw [hS1]; exact B1.r)
    (fun b hb => by rw [hxm'] at hb; simp at hb; rw [← hb]; exact o1r) B1.lo B1.lr B1.pl (by rw [hS1]; exact B1.tl) (fun i hi => .inr ⟨by rw [hS1], rfl⟩)
  have s1 : H1.store ⟨p, 212, none⟩ xm' = some (H1.put p (bkC J n pt xm' xo xr S1 wh)) := by
    rw [B1.vp.store (212 + 0) xm' (by rw [bkC_len _ _ _ _ _ _ _ _ B1.pl]; omega), bkC_tail _ _ _ _ _ _ _ _ B1.pl, hS1]; rfl
  obtain ⟨H2, hH2⟩ : ∃ H2, H2 = H1.put p (bkC J n pt xm' xo xr S1 wh) := ⟨_, rfl⟩
  rw [← hH2] at s1 B2
  have L1 := BL.of B1.vp B1.pl
  have L2 := BL.of B2.vp B2.pl
  have lo2 := L2.lo
  have w2 := B2.on.wf
  obtain ⟨yr2, yw2, yo2, yi2, T2⟩ := B2.at h200 (by rw [hS1]; exact ht) hq
  have q2 : H2.load ⟨q, 2, none⟩ = some yo2 := T2.vq.load 2
  have so : S1.outs = S.outs := by rw [hS1]
  -- what was put out
  obtain ⟨ao, H3, apo, G3⟩ := Og.pour w2 B2.o (Own.ints T2.o).src (by simp) (bytes := 8) (by have := sok.outs; have := tok.lo; have : k * k ≤ 300 * 300 := Nat.mul_le_mul hk hk; rw [so]; omega)
  obtain ⟨xo', hxo'⟩ : ∃ y : Value, y = .slice ao (S1.outs.length + t.outs.length) 0 := ⟨_, rfl⟩
  rw [← hxo'] at apo G3
  obtain ⟨S2, hS2⟩ : ∃ S2, S2 = { S1 with outs := S.outs ++ t.outs } := ⟨_, rfl⟩
  obtain ⟨ow2', how2⟩ : ∃ o : Nat → Nat, o = fun b => if H2.next ≤ b then 2002 else ow1 b := ⟨_, rfl⟩
  have ho2 : ∀ b, b < H2.next → ow2' b = ow1 b := fun b hb => by rw [how2]; simp only; rw [if_neg (by omega)]
  have k3 : ∀ b, b < H2.next → ow1 b ≠ 2002 → H3.blk b = H2.blk b := fun b hb h2 => G3.same b hb (fun e => h2 (B2.lo b e))
  have B4 := B2.step G3.wf G3.base G3.next k3 ho2 (S' := S2) (pt' := pt) (xm' := xm') (xo' := xo') (xr' := xr)
    (by rw [hS2]; exact B2.m.keep (B_eq G3.base) (fun b hb => k3 b (B2.m.lt w2 hb) (by have := B2.lm b hb; omega)))
    (by rw [hS2]; have := G3.own; rw [so] at this; simp only [List.length_append, R14.ci_append]; exact this)
    (by rw [hS2]; exact B2.r.keep (B_eq G3.base) (fun b hb => k3 b (B2.r.lt w2 hb) (by have := B2.lr b hb; omega)))
    (fun b hb => by rw [ho2 b (B2.m.lt w2 hb)]; exact B2.lm b hb) (fun b hb => by
      rcases G3.old b hb with h | h
      · rw [ho2 b (B2.o.lt w2 h)]; exact B2.lo b h
      · rw [how2]; simp only; rw [if_pos h])
    (fun b hb => by rw [ho2 b (B2.r.lt w2 hb)]; exact B2.lr b hb) B2.pl (by rw [hS2]; exact B2.tl) (fun i hi => .inr ⟨by rw [hS2], rfl⟩)
  have vp3 : Vr H3 p 81 220 (bkC J n pt xm' xo xr S1 wh) := B2.vp.keep G3.base (k3 p (w2.lt B2.vp.bq) (by have := B2.lp; omega))
  have s3 : H3.store ⟨p, 213, none⟩ xo' = some (H3.put p (bkC J n pt xm' xo' xr S2 wh)) := by
    rw [vp3.store (212 + 1) xo' (by rw [bkC_len _ _ _ _ _ _ _ _ B2.pl]; omega), bkC_tail _ _ _ _ _ _ _ _ B2.pl, hS2]; rfl
  obtain ⟨H4, hH4⟩ : ∃ H4, H4 = H3.put p (bkC J n pt xm' xo' xr S2 wh) := ⟨_, rfl⟩
  rw [← hH4] at s3 B4
  have w4 := B4.on.wf
  have l24 := (BL.of B4.vp B4.pl).l2
  -- what was put in
  have chk : R14.chkC J.reds = 0 := by
    unfold validE at hv
    split at hv
    · rename_i h; exact absurd hv h
    · split at hv
      · rename_i h; exact absurd hv h
      · rename_i h; simpa using h
  obtain ⟨v5, H5, nT, w5, b5, n5, k5, hq5⟩ := R14.new_T w4 (ok.xr.keep hw0 B4.on.base B4.on.keep)
  unfold R14.NewQ at hq5
  unfold R14.chkC at chk
  have r4 : ¬ 4 < J.reds.length := fun h => by rw [if_pos h] at chk; cases chk
  rw [if_neg r4] at chk hq5
  have rall : J.reds.all (fun r => R14.right r.1) = true := by
    cases hb : J.reds.all (fun r => R14.right r.1) with
    | true => rfl
    | false => rw [hb] at chk; cases chk
  rw [if_pos rall] at hq5
  obtain ⟨ph, xoh, xnh, rfl, NW⟩ := hq5
  have on5 : On H4 H5 := ⟨w5, b5, n5, k5⟩
  have B5 := B4.grow on5 (ow' := ow2') (fun _ _ => rfl)
  obtain ⟨yr5, yw5, yo5, yi5, T4⟩ := B4.at h200 (by rw [hS2, hS1]; exact ht) hq
  have T5 : TrH H5 ow2' a q t yr5 yw5 yo5 yi5 := T4.keep w4 b5 (fun b hb _ _ => k5 b hb) (fun _ _ => rfl)
  have q5 : H5.load ⟨q, 3, none⟩ = some yi5 := T5.vq.load 3
  obtain ⟨ai, hyi5⟩ := T5.n.len
  have u7' : t1 7 = xm' := by rw [u7, hxm']
  have s1' : sStore H1 1 (.pointer (some ⟨p, 212, none⟩)) xm' = some H2 := by rw [hxm'] at s1 ⊢; simp [s1]
  have s3' : sStore H3 1 (.pointer (some ⟨p, 213, none⟩)) xo' = some H4 := by rw [hxo'] at s3 ⊢; simp [s3]
  simp [L43t, u0, u2, u4, u7', s1', lo2, q2, apo, s3', l24]
  refine goT_of nT ?_
  obtain ⟨ops, hops⟩ : ∃ o, o = J.reds.map Prod.fst := ⟨_, rfl⟩
  have hp5 : R14.HP H5 H4.next H5.next ph ops (zer ops) 0 xoh xnh := by
    have h := NW.hp
    have e1 : zer ops = J.reds.map fun r => R14.zeroV r.1 := by rw [hops]; simp [zer]
    rw [e1, hops]
    exact h
  have hol : ops.length = J.reds.length := by rw [hops]; simp
  simp [u2, q5]
  rw [hyi5]
  simp
  rw [← hyi5]
  refine add_loop w5 hp5 (by simp [zer]) (by omega) T5.n (fun b hb => .inl (T4.n.lt w4 hb)) (Nat.le_refl _) (by have := tok.ln; omega) (by simp) (by simp [hyi5]) (by simp) (by simp) ?_
  intro t6 H6 many v0 v2 v4 v10 w6 b6 n6 k6 h6
  simp [u0, u2, u4] at v0 v2 v4 v10
  have on46 : On H4 H6 := ⟨w6, b6.trans b5, Nat.le_trans n5 n6, fun b hb => by rw [k6 b (Nat.lt_of_lt_of_le hb n5) (.inl hb), k5 b hb]⟩
  have B6 := B4.grow on46 (ow' := ow2') (fun _ _ => rfl)
  have lr6 := (BL.of B6.vp B6.pl).lr
  have sr : S2.reds = S.reds := by rw [hS2, hS1]
  obtain ⟨v7, H7, oT, hQ⟩ := R14.onto_T w6 h6 (by rw [adds_len]; simp [zer]) (by omega) n6 (Own.ints B6.r) (by rw [sr, sok.reds]; omega)
  unfold R14.OntoQ at hQ
  rw [if_pos (by rw [adds_len, sr, sok.reds]; simp [zer, hol])] at hQ
  obtain ⟨xr', rfl, G7⟩ := hQ
  have os7 := R14.Og.olds G7
  obtain ⟨S3, hS3⟩ : ∃ S3, S3 = { S2 with reds := ontoN ops S2.reds (addsV ops t.intos) ops.length } := ⟨_, rfl⟩
  obtain ⟨ow3, how3⟩ : ∃ o : Nat → Nat, o = fun b => if H6.next ≤ b then 2003 else ow2' b := ⟨_, rfl⟩
  have ho3 : ∀ b, b < H6.next → ow3 b = ow2' b := fun b hb => by rw [how3]; simp only; rw [if_neg (by omega)]
  have B8 := B6.step G7.wf G7.base G7.next (fun b hb _ => os7 b hb) ho3 (S' := S3) (pt' := pt) (xm' := xm') (xo' := xo') (xr' := xr')
    (by rw [hS3]; exact B6.m.keep (B_eq G7.base) (fun b hb => os7 b (B6.m.lt w6 hb))) (by rw [hS3]; exact B6.o.keep (B_eq G7.base) (fun b hb => os7 b (B6.o.lt w6 hb)))
    (by rw [hS3]; simp only [R14.ontoN_len]; exact G7.own)
    (fun b hb => by rw [ho3 b (B6.m.lt w6 hb)]; exact B6.lm b hb) (fun b hb => by rw [ho3 b (B6.o.lt w6 hb)]; exact B6.lo b hb) (fun b hb => by
      rcases G7.old b hb with h | h
      · cases h
      · rw [how3]; simp only; rw [if_pos h]) B6.pl (by rw [hS3]; exact B6.tl) (fun i hi => .inr ⟨by rw [hS3], rfl⟩)
  have vp7 : Vr H7 p 81 220 (bkC J n pt xm' xo' xr S2 wh) := B6.vp.keep G7.base (os7 p (w6.lt B6.vp.bq))
  have s7 : sStore H7 1 (.pointer (some ⟨p, 214, none⟩)) xr' = some (H7.put p (bkC J n pt xm' xo' xr' S3 wh)) := by
    obtain ⟨ar, har⟩ := G7.own.len
    have h : H7.store ⟨p, 214, none⟩ xr' = some (H7.put p (bkC J n pt xm' xo' xr' S3 wh)) := by
      rw [vp7.store (212 + 2) xr' (by rw [bkC_len _ _ _ _ _ _ _ _ B6.pl]; omega), bkC_tail _ _ _ _ _ _ _ _ B6.pl, hS3]; rfl
    rw [har] at h ⊢; simp [h]
  obtain ⟨H8, hH8⟩ : ∃ H8, H8 = H7.put p (bkC J n pt xm' xo' xr' S3 wh) := ⟨_, rfl⟩
  rw [← hH8] at s7 B8
  have w8 := B8.on.wf
  have lc8 := (BL.of B8.vp B8.pl).lc
  have sc : S3.count = S.count := by rw [hS3, hS2, hS1]
  -- one more
  obtain ⟨S4, hS4⟩ : ∃ S4, S4 = { S3 with count := S3.count + 1 } := ⟨_, rfl⟩
  have B9 := B8.step (H3 := H8) w8 rfl (Nat.le_refl _) (fun _ _ _ => rfl) (ow' := ow3) (fun _ _ => rfl) (S' := S4) (pt' := pt) (xm' := xm') (xo' := xo') (xr' := xr') (by rw [hS4]; exact B8.m) (by rw [hS4]; exact B8.o) (by rw [hS4]; exact B8.r) B8.lm B8.lo B8.lr B8.pl (by rw [hS4]; exact B8.tl) (fun i hi => .inr ⟨by rw [hS4], rfl⟩)
  have e8 : IntKind.i64.wrap ((S3.count : Int) + 1) = ((S3.count + 1 : Nat) : Int) := by rw [w64 _ (by have := sok.cnt; omega)]; omega
  have s8 : H8.store ⟨p, 218, none⟩ (iv ((S3.count + 1 : Nat) : Int)) = some (H8.put p (bkC J n pt xm' xo' xr' S4 wh)) := by
    rw [B8.vp.store (212 + 6) (iv ((S3.count + 1 : Nat) : Int)) (by rw [bkC_len _ _ _ _ _ _ _ _ B8.pl]; omega), bkC_tail _ _ _ _ _ _ _ _ B8.pl, hS4]; rfl
  obtain ⟨H9, hH9⟩ : ∃ H9, H9 = H8.put p (bkC J n pt xm' xo' xr' S4 wh) := ⟨_, rfl⟩
  rw [← hH9] at s8 B9
  have w9 := B9.on.wf
  -- the attempt is over
  obtain ⟨S5, hS5⟩ : ∃ S5, S5 = { S4 with tries := S4.tries.set a none } := ⟨_, rfl⟩
  have B10 := B9.step (H3 := H9) w9 rfl (Nat.le_refl _) (fun _ _ _ => rfl) (ow' := ow3) (fun _ _ => rfl) (S' := S5) (pt' := pt.set a (.pointer none)) (xm' := xm') (xo' := xo') (xr' := xr') (by rw [hS5]; exact B9.m) (by rw [hS5]; exact B9.o) (by rw [hS5]; exact B9.r) B9.lm B9.lo B9.lr (by simp [B9.pl]) (by rw [hS5]; simp [B9.tl]) (fun i hi => by
    by_cases e : a = i
    · subst e
      exact .inl ⟨by rw [hS5]; simp [List.getElem?_set, B9.tl, h200], by simp [List.getElem?_set, B9.pl, h200]⟩
    · exact .inr ⟨by rw [hS5]; simp [List.getElem?_set, e], by simp [List.getElem?_set, e]⟩)
  have s9 : H9.store ⟨p, 12 + a, none⟩ (.pointer none) = some (H9.put p (bkC J n (pt.set a (.pointer none)) xm' xo' xr' S5 wh)) := by
    rw [B9.vp.store (12 + a) (.pointer none) (by rw [bkC_len _ _ _ _ _ _ _ _ B9.pl]; omega), bkC_set _ _ _ _ _ _ _ _ (by rw [B9.pl]; exact h200), hS5]
  obtain ⟨H10, hH10⟩ : ∃ H10, H10 = H9.put p (bkC J n (pt.set a (.pointer none)) xm' xo' xr' S5 wh) := ⟨_, rfl⟩
  rw [← hH10] at s9 B10
  have fin : S5 = commitV J S a t := by
    rw [hS5, hS4, hS3, hS2, hS1]
    unfold commitV
    rw [hops]
    simp
  -- the event's variable
  have nvp : vx ≠ p := fun e => by rw [e] at o1x; have := B1.lp; omega
  have vx2 : Vr H2 vx 58 6 (evC x) := by rw [hH2]; exact vx1.beside nvp _
  have vx3 : Vr H3 vx 58 6 (evC x) := vx2.keep G3.base (k3 vx (w2.lt vx2.bq) (by omega))
  have vx4 : Vr H4 vx 58 6 (evC x) := by rw [hH4]; exact vx3.beside nvp _
  have vx6 : Vr H6 vx 58 6 (evC x) := vx4.on w4 on46
  have vx7 : Vr H7 vx 58 6 (evC x) := vx6.keep G7.base (os7 vx (w6.lt vx6.bq))
  have vx8 : Vr H8 vx 58 6 (evC x) := by rw [hH8]; exact vx7.beside nvp _
  have vx9 : Vr H9 vx 58 6 (evC x) := by rw [hH9]; exact vx8.beside nvp _
  have a9 : H9.load ⟨vx, 2, none⟩ = some (iv x.age) := vx9.load 2
  have ix : sIdxArr 200 1 (.pointer (some ⟨p, 12, none⟩)) (iv x.age) = some (.pointer (some ⟨p, 12 + a, none⟩)) := by
    rw [ha]
    have c1 : (0 : Int) ≤ a ∧ (a : Int) < 200 := by omega
    simp [sIdxArr, c1, add_own, h200]
  obtain ⟨c9, hc9⟩ : ∃ c : Nat, c = S3.count + 1 := ⟨_, rfl⟩
  rw [← hc9] at e8 s8
  simp [v0, v10, lr6]
  refine goT_of oT ?_
  simp [v0, v4, s7, lc8, e8, s8, a9, ix, s9]
  exact ⟨B10.on, .inr ⟨_, _, _, _, _, _, by rw [← fin], rfl, B10⟩⟩
theorem commit_N {H0 H : Heap} (hw0 : H0.WF) {p : Nat} {ow : Nat → Nat} {J : Jb} {n : Int} {wh : Bool} {S : BS} {pt : List Value} {xm xo xr : Value} (B : BK H0 H p ow J n wh S pt xm xo xr) (ok : JbOk H0 J) {k : Nat} (sok : SOk J k S) (hk : k ≤ 300) (hv : validE J = 0)
    {x : Ev} {a : Nat} (hn : n = (cntP J.S).1) (hlt : x.age < n) (ha : x.age = (a : Int)) (h200 : a < 200) {t : Tr} {q : Nat} {yr yw yo yi : Value} (ht : S.tries[a]? = some (some t)) (hq : pt[a]? = some (ptr q)) (T : TrH H ow a q t yr yw yo yi) :
    TE Try.prog 43 [ptr p, .agg (evC x).toArray, ptr q] H (EvQ H0 p J n wh (if x.age = S.count ∧ holdsV S.mem t.reads = true ∧ (wh = true → sameV (taskV J x.age S.mem) t (setM S.mem t.writes) = true) then some (commitV J S a t) else none)) := by
  refine TE_by hm light43 ?_
  have hw := B.on.wf
  have tok := sok.tr a t ht
  obtain ⟨HA, hHA⟩ : ∃ HA, HA = H.new 58 6 (evC x) := ⟨_, rfl⟩
  obtain ⟨vx, hvx⟩ : ∃ vx, vx = H.next := ⟨_, rfl⟩
  obtain ⟨owA, howA⟩ : ∃ owA, owA = ow2 ow vx 7777 := ⟨_, rfl⟩
  have A : EA H0 HA p owA J n wh S pt xm xo xr vx x := by
    rw [hHA, hvx, howA]
    exact ⟨B.grow ((On.refl hw).new _ _ _) (fun b hb => by unfold ow2; rw [if_neg (by omega)]), by rw [← hvx]; exact hvx ▸ Vr.mk' hw _ _ _, by unfold ow2; rw [if_pos (by omega)]⟩
  have hHA2 : H.new 58 6 [iv x.kind, iv x.who, iv x.age, iv x.at', iv x.value, iv x.from'] = HA := hHA.symm
  have L := BL.of A.bk.vp A.bk.pl
  have wA := A.bk.on.wf
  have a2 : HA.load ⟨vx, 2, none⟩ = some (iv x.age) := A.v.load 2
  have lc := L.lc
  obtain ⟨yr, yw, yo, yi, TA⟩ := A.bk.at h200 ht hq
  have hT := holds_T wA (p := p) L.lm A.bk.m TA.vq TA.r (fun c hc => by have := tok.r c hc; have := sok.mem; omega) (by have := tok.lr; omega)
  obtain ⟨R, hR⟩ : ∃ R, R = (if x.age = S.count ∧ holdsV S.mem t.reads = true ∧ (wh = true → sameV (taskV J x.age S.mem) t (setM S.mem t.writes) = true) then some (commitV J S a t) else none) := ⟨_, rfl⟩
  rw [← hR]
  obtain ⟨c1, hc1⟩ : ∃ b, b = (x.age != (S.count : Int)) := ⟨_, rfl⟩
  cases c1 with
  | true =>
    have hne : x.age ≠ S.count := bne_iff_ne.1 hc1.symm
    rw [if_neg (by simp [hne])] at hR
    simp [L43_eq, hHA2, ← hvx, a2, lc, ← hc1]
    exact ⟨A.bk.on, .inl ⟨hR, rfl⟩⟩
  | false =>
  have heq : x.age = S.count := by simpa using hc1.symm
  cases hh : holdsV S.mem t.reads with
  | false =>
    rw [hh] at hT
    rw [if_neg (by simp [hh])] at hR
    simp [L43_eq, hHA2, ← hvx, a2, lc, ← hc1]
    refine goT_of hT ?_
    simp
    exact ⟨A.bk.on, .inl ⟨hR, rfl⟩⟩
  | true =>
  rw [hh] at hT
  have lm := L.lm
  have w1 : 1 ≤ J.words ∧ J.words ≤ 64 := by
    unfold validE at hv
    split at hv
    · rename_i h; exact absurd hv h
    · rename_i h
      simp only [ne_eq, Decidable.not_not] at h
      unfold ofE at h
      split at h
      · cases h
      · omega
  have mne : S.mem.length ≠ 0 := by have := sok.mem; omega
  have src := (Own.ints A.bk.m).src
  have ap := append_nil (ety := 2) (bytes := 8) src mne (by have := sok.mem; omega)
  obtain ⟨r, hr⟩ : ∃ r, r = HA.next := ⟨_, rfl⟩
  obtain ⟨HB, hHB⟩ : ∃ HB, HB = HA.new 2 1 (S.mem.map (.int .i64)) := ⟨_, rfl⟩
  rw [← hHB, ← hr] at ap
  have onB : On HA HB := by rw [hHB]; exact (On.refl wA).new _ _ _
  have vrB : Vr HB r 2 1 (ci S.mem) := by rw [hHB, hr]; exact Vr.mk' wA _ _ _
  have TB := TA.vq.on wA onB
  have qB : HB.load ⟨q, 1, none⟩ = some yw := TB.load 1
  have ywB := Own.on wA TA.w onB
  obtain ⟨aw, hyw⟩ := TA.w.len
  simp [L43_eq, hHA2, ← hvx, a2, lc, ← hc1]
  refine goT_of hT ?_
  simp [lm, ap, qB]
  rw [hyw]
  simp
  rw [← hyw]
  refine write_loop onB.wf vrB ywB (fun b hb e => by have := TA.w.lt wA hb; omega) (fun c hc => by have := tok.w c hc; have := sok.mem; omega) (by have := tok.lw; omega) (by simp) (by simp [hyw]) (by simp) (by simp) ?_
  intro t1 H1 u0 u2 u4 u7 fr v1
  simp at u0 u2 u4 u7
  have w1' := fr.wf
  have on1 : On HA H1 := ⟨fr.wf, fr.base.trans onB.base, Nat.le_trans onB.next fr.next, fun b hb => by rw [fr.keep b (Nat.lt_of_lt_of_le hb onB.next) (by omega), onB.keep b hb]⟩
  obtain ⟨ow1, how1⟩ : ∃ o : Nat → Nat, o = fun b => if r ≤ b then 2001 else owA b := ⟨_, rfl⟩
  have lpA := A.bk.lp
  have B1 := A.bk.grow on1 (ow' := ow1) (fun b hb => by rw [how1]; simp only; rw [if_neg (by omega)])
  have nr1 : r < H1.next := by have := on1.next; have := fr.wf.lt v1.bq; omega
  -- the memory
  have v1w := v1
  have L1 := BL.of B1.vp B1.pl
  have lw1 := L1.lw
  have o1r : ow1 r = 2001 := by rw [how1]; simp only; rw [if_pos (Nat.le_refl _)]
  have vx1 : Vr H1 vx 58 6 (evC x) := A.v.on wA on1
  have o1x : ow1 vx = 7777 := by rw [how1]; simp only; rw [if_neg (by have := wA.lt A.v.bq; omega)]; exact A.lx
  have fin : R = some (commitV J S a t) → ∀ (t2 : Tm), t2 0 = ptr p → t2 2 = ptr q → t2 4 = ptr vx → t2 7 = .slice (some ⟨r, 0, none⟩) S.mem.length 0 → wpA Try.prog L43t (EndA (fun v H' => EvQ H0 p J n wh R (.ret v) H') [.tmp 6]) t2 (rdy H1) := fun hR' t2 c0 c2 c4 c7 => by
    rw [hR']
    exact commit_w hw0 B1 ok sok hk hv ha h200 ht hq v1w o1r vx1 o1x c0 c2 c4 c7
  cases wh with
  | false =>
    rw [if_pos ⟨heq, hh, fun e => by cases e⟩] at hR
    simp [u0, u2, u4, u7, lw1]
    exact fin hR _ (by simp [u0]) (by simp [u2]) (by simp [u4]) (by simp [u7])
  | true =>
    obtain ⟨yr3, yw3, yo3, yi3, T3⟩ := B1.at h200 ht hq
    have pm : Ints H1 .i64 (.slice (some ⟨r, 0, none⟩) S.mem.length 0) (setM S.mem t.writes) := by
      rw [show S.mem.length = (setM S.mem t.writes).length from (setM_len _ _).symm]
      exact Own.ints (Own.mk (by simp [ci]) v1w.hq v1w.bq)
    subst hn
    have sB := same_B hw0 B1 ok sok hk hv (age := x.age) (by omega) ht T3 pm (setM_len _ _)
    have a2x : H1.load ⟨vx, 2, none⟩ = some (iv x.age) := vx1.load 2
    simp [u0, u2, u4, u7, lw1, a2x]
    refine goT_of sB ?_
    cases hs : sameV (taskV J x.age S.mem) t (setM S.mem t.writes) with
    | false =>
      rw [if_neg (by simp [hs])] at hR
      simp
      exact ⟨B1.on, .inl ⟨hR, rfl⟩⟩
    | true =>
      rw [if_pos ⟨heq, hh, fun _ => hs⟩] at hR
      simp
      exact fin hR _ (by simp [u0]) (by simp [u2]) (by simp [u4]) (by simp [u7])
end Go.Proofs.Ytjkfghekdcalhaa
namespace Go.Proofs.Ytjkfghekdcalhaa
open Go.Ot Go.RowKit
open R14 (Twos ci joinV addN ontoN)
set_option linter.unusedSimpArgs false
set_option linter.unusedVariables false
def L44t : LCode :=
 .seq (.region [⟨some 64, .move (.tmp 0), none⟩,
  ⟨some 65, .off 2 (.tmp 4), none⟩,
  ⟨some 66, .load false 1 (.tmp 65), none⟩,
  ⟨some 67, .move (.tmp 7), none⟩,
  ⟨some 68, .off 4 (.tmp 4), none⟩,
  ⟨some 69, .load false 1 (.tmp 68), none⟩,
  ⟨some 70, .build [.int .i64 0, .int .i64 0, .int .i64 0] [(0, 1, .tmp 66), (1, 1, .tmp 67), (2, 1, .tmp 69)], none⟩,
  ⟨some 71, .nilCheck (.tmp 64), none⟩,
  ⟨some 72, .off 212 (.tmp 71), none⟩,
  ⟨some 73, .off 3 (.tmp 72), none⟩,
  ⟨none, .store 3 (.tmp 73) (.tmp 70), none⟩])
 (.seq (.region [⟨some 6, .move (.const (.bool true)), none⟩])
 (.ret))
theorem L44_eq : L44 =
 .seq (.region [⟨some 4, .box 58 6 (.tmp 1), none⟩,
  ⟨some 6, .move (.const (.bool false)), none⟩])
 (.seq (.region [⟨some 10, .off 3 (.tmp 4), none⟩,
  ⟨some 11, .load false 1 (.tmp 10), none⟩,
  ⟨some 7, .move (.tmp 11), none⟩])
 (.seq (.seq (.draw [⟨⟨some 12, .off 2 (.tmp 4), none⟩, .pure, 0, 0⟩,
  ⟨⟨some 13, .load false 1 (.tmp 12), none⟩, .read, 0, 0⟩,
  ⟨⟨some 14, .move (.tmp 0), none⟩, .pure, 0, 0⟩,
  ⟨⟨some 15, .nilCheck (.tmp 14), none⟩, .pure, 0, 0⟩,
  ⟨⟨some 16, .off 212 (.tmp 15), none⟩, .pure, 0, 0⟩,
  ⟨⟨some 17, .off 6 (.tmp 16), none⟩, .pure, 0, 0⟩,
  ⟨⟨some 18, .load false 1 (.tmp 17), none⟩, .read, 0, 0⟩,
  ⟨⟨some 19, .bin .neq (.tmp 13) (.tmp 18), none⟩, .pure, 0, 0⟩,
  ⟨⟨some 20, .move (.tmp 19), none⟩, .pure, 0, 0⟩,
  ⟨⟨some 21, .move (.tmp 0), (some (20, false))⟩, .pure, 0, 0⟩,
  ⟨⟨some 22, .move (.tmp 2), (some (20, false))⟩, .pure, 0, 0⟩,
  ⟨⟨some 23, .call 55 [.tmp 21, .tmp 22], (some (20, false))⟩, .heavy, 0, 1⟩,
  ⟨⟨some 24, .un .not (.tmp 23), (some (20, false))⟩, .pure, 1, 1⟩,
  ⟨⟨some 25, .pick (.tmp 20) (.const (.bool true)) (.tmp 24), none⟩, .pure, 1, 1⟩,
  ⟨⟨some 26, .move (.tmp 25), none⟩, .pure, 1, 1⟩,
  ⟨⟨some 27, .move (.tmp 7), (some (26, false))⟩, .pure, 1, 1⟩,
  ⟨⟨some 28, .bin .lss (.tmp 27) (.const (.int .i64 2)), (some (26, false))⟩, .pure, 1, 1⟩,
  ⟨⟨some 29, .pick (.tmp 26) (.const (.bool true)) (.tmp 28), none⟩, .pure, 1, 1⟩,
  ⟨⟨some 30, .move (.tmp 29), none⟩, .pure, 1, 1⟩,
  ⟨⟨some 31, .move (.tmp 7), (some (30, false))⟩, .pure, 1, 1⟩,
  ⟨⟨some 32, .bin .gtr (.tmp 31) (.const (.int .i64 5)), (some (30, false))⟩, .pure, 1, 1⟩,
  ⟨⟨some 33, .pick (.tmp 30) (.const (.bool true)) (.tmp 32), none⟩, .pure, 1, 1⟩])
 (.cond (.tmp 33) (.seq (.region [⟨some 6, .move (.const (.bool false)), none⟩])
 (.ret))
 (.skip)))
 (.seq (.seq (.region [⟨some 34, .move (.tmp 0), none⟩,
  ⟨some 35, .nilCheck (.tmp 34), none⟩,
  ⟨some 36, .off 219 (.tmp 35), none⟩,
  ⟨some 37, .load false 1 (.tmp 36), none⟩])
 (.cond (.tmp 37) (.seq (.alts [[⟨⟨some 39, .move (.tmp 0), none⟩, .pure, 0, 0⟩,
  ⟨⟨some 40, .nilCheck (.tmp 39), none⟩, .pure, 0, 0⟩,
  ⟨⟨some 41, .off 0 (.tmp 40), none⟩, .pure, 0, 0⟩,
  ⟨⟨some 42, .load true 11 (.tmp 41), none⟩, .read, 0, 0⟩,
  ⟨⟨some 43, .off 2 (.tmp 4), none⟩, .pure, 0, 0⟩,
  ⟨⟨some 44, .load false 1 (.tmp 43), none⟩, .read, 0, 0⟩,
  ⟨⟨some 45, .move (.tmp 0), none⟩, .pure, 0, 0⟩,
  ⟨⟨some 46, .nilCheck (.tmp 45), none⟩, .pure, 0, 0⟩,
  ⟨⟨some 47, .off 212 (.tmp 46), none⟩, .pure, 0, 0⟩,
  ⟨⟨some 48, .off 0 (.tmp 47), none⟩, .pure, 0, 0⟩,
  ⟨⟨some 49, .load false 1 (.tmp 48), none⟩, .read, 0, 0⟩,
  ⟨⟨some 50, .call 21 [.tmp 42, .tmp 44, .tmp 49], none⟩, .heavy, 0, 1⟩,
  ⟨⟨some 38, .move (.tmp 50), none⟩, .pure, 1, 2⟩,
  ⟨⟨some 51, .extract (.tmp 38) 0, none⟩, .pure, 1, 2⟩,
  ⟨⟨some 52, .extract (.tmp 38) 1, none⟩, .pure, 1, 3⟩,
  ⟨⟨some 8, .new 67 6 [.slice none 0 0, .slice none 0 0, .slice none 0 0, .int .i64 0, .int .i64 0, .int .i64 0], none⟩, .heavy, 1, 2⟩,
  ⟨⟨none, .store 6 (.tmp 8) (.tmp 51), none⟩, .heavy, 2, 3⟩,
  ⟨⟨some 9, .move (.tmp 52), none⟩, .pure, 3, 3⟩],
 [⟨⟨some 39, .move (.tmp 0), none⟩, .pure, 0, 1⟩,
  ⟨⟨some 40, .nilCheck (.tmp 39), none⟩, .pure, 0, 1⟩,
  ⟨⟨some 41, .off 0 (.tmp 40), none⟩, .pure, 0, 1⟩,
  ⟨⟨some 42, .load true 11 (.tmp 41), none⟩, .read, 0, 1⟩,
  ⟨⟨some 43, .off 2 (.tmp 4), none⟩, .pure, 0, 1⟩,
  ⟨⟨some 44, .load false 1 (.tmp 43), none⟩, .read, 0, 1⟩,
  ⟨⟨some 45, .move (.tmp 0), none⟩, .pure, 0, 1⟩,
  ⟨⟨some 46, .nilCheck (.tmp 45), none⟩, .pure, 0, 1⟩,
  ⟨⟨some 47, .off 212 (.tmp 46), none⟩, .pure, 0, 1⟩,
  ⟨⟨some 48, .off 0 (.tmp 47), none⟩, .pure, 0, 1⟩,
  ⟨⟨some 49, .load false 1 (.tmp 48), none⟩, .read, 0, 1⟩,
  ⟨⟨some 8, .new 67 6 [.slice none 0 0, .slice none 0 0, .slice none 0 0, .int .i64 0, .int .i64 0, .int .i64 0], none⟩, .heavy, 0, 1⟩,
  ⟨⟨some 50, .call 21 [.tmp 42, .tmp 44, .tmp 49], none⟩, .heavy, 1, 2⟩,
  ⟨⟨some 38, .move (.tmp 50), none⟩, .pure, 2, 2⟩,
  ⟨⟨some 51, .extract (.tmp 38) 0, none⟩, .pure, 2, 2⟩,
  ⟨⟨some 52, .extract (.tmp 38) 1, none⟩, .pure, 2, 3⟩,
  ⟨⟨none, .store 6 (.tmp 8) (.tmp 51), none⟩, .heavy, 2, 3⟩,
  ⟨⟨some 9, .move (.tmp 52), none⟩, .pure, 3, 3⟩]])
 (.seq (.region [⟨some 53, .off 3 (.tmp 8), none⟩,
  ⟨some 54, .load false 1 (.tmp 53), none⟩,
  ⟨some 55, .move (.tmp 7), none⟩,
  ⟨some 56, .bin .neq (.tmp 54) (.tmp 55), none⟩,
  ⟨some 57, .move (.tmp 56), none⟩,
  ⟨some 58, .off 4 (.tmp 8), (some (57, false))⟩,
  ⟨some 59, .load false 1 (.tmp 58), (some (57, false))⟩,
  ⟨some 60, .off 4 (.tmp 4), (some (57, false))⟩,
  ⟨some 61, .load false 1 (.tmp 60), (some (57, false))⟩,
  ⟨some 62, .bin .neq (.tmp 59) (.tmp 61), (some (57, false))⟩,
  ⟨some 63, .pick (.tmp 57) (.const (.bool true)) (.tmp 62), none⟩])
 (.cond (.tmp 63) (.seq (.region [⟨some 6, .move (.const (.bool false)), none⟩])
 (.ret))
 (.skip))))
 (.skip)))
 (L44t)))) := rfl
/-- The last part of fault, in whatever heap the old blocks are as they were. -/
theorem fault_w {H HZ : Heap} {p : Nat} {J : Jb} {n : Int} {wh : Bool} {S : BS} {pt : List Value} {xm xo xr : Value} (pl : pt.length = 200) (hn : H.next ≤ HZ.next) (vp : Vr HZ p 81 220 (bkC J n pt xm xo xr S wh)) {vx : Nat} {x : Ev} (vv : Vr HZ vx 58 6 (evC x)) (hk : ∀ b, b < H.next → HZ.blk b = H.blk b)
    {t : Tm} (t0 : t 0 = ptr p) (t4 : t 4 = ptr vx) (t7 : t 7 = iv x.at') :
    wpA Try.prog L44t (EndA (fun v1 H1 => v1 = .bool true ∧ H.next ≤ H1.next ∧ ∀ b, b < H.next → H1.blk b = (H.put p (bkC J n pt xm xo xr { S with fa := x.age, fo := x.at', fv := x.value } wh)).blk b) [.tmp 6]) t (rdy HZ) := by
  obtain ⟨S1, hS1⟩ : ∃ S1, S1 = { S with fa := x.age, fo := x.at', fv := x.value } := ⟨_, rfl⟩
  have a2 : HZ.load ⟨vx, 2, none⟩ = some (iv x.age) := vv.load 2
  have a4 : HZ.load ⟨vx, 4, none⟩ = some (iv x.value) := vv.load 4
  have e0 : ∀ Z : BS, bkC J n pt xm xo xr Z wh = (jobC J ++ (iv n :: (pt ++ [xm, xo, xr]))) ++ ([iv Z.fa, iv Z.fo, iv Z.fv] ++ [iv Z.count, .bool wh]) := fun Z => by simp [bkC]
  have pre : (jobC J ++ (iv n :: (pt ++ [xm, xo, xr]))).length = 215 := by simp [pl]
  rw [e0] at vp
  have st := vp.storeMid (new := [iv x.age, iv x.at', iv x.value]) rfl (by simp)
  rw [pre] at st
  have e1 : (jobC J ++ (iv n :: (pt ++ [xm, xo, xr]))) ++ ([iv x.age, iv x.at', iv x.value] ++ [iv S.count, .bool wh]) = bkC J n pt xm xo xr S1 wh := by rw [e0, hS1]
  rw [e1] at st
  rw [← hS1]
  obtain ⟨C, hC⟩ : ∃ C, C = bkC J n pt xm xo xr S1 wh := ⟨_, rfl⟩
  rw [← hC] at st ⊢
  obtain ⟨HB, hHB⟩ : ∃ HB, HB = HZ.put p C := ⟨_, rfl⟩
  rw [← hHB] at st
  have st' : sStore HZ 3 (.pointer (some ⟨p, 215, none⟩)) (.agg #[iv x.age, iv x.at', iv x.value]) = some HB := st
  have fin : ∀ b, b < H.next → HB.blk b = (H.put p C).blk b := fun b hb => by
    rw [hHB]
    by_cases e : b = p
    · subst e; simp only [Heap.put, hk b hb]
    · simp only [Heap.put, if_neg e, hk b hb]
  have hnB : H.next ≤ HB.next := by rw [hHB]; exact hn
  simp [L44t, t0, t4, t7, a2, a4, st']
  exact ⟨hnB, fin⟩
theorem bk_fault (J : Jb) (n : Int) (pt : List Value) (xm xo xr : Value) (S : BS) (wh : Bool) (a b c : Int) (j : Nat) (v : Value) (h : (bkC J n pt xm xo xr { S with fa := a, fo := b, fv := c } wh)[j]? = some v) : (bkC J n pt xm xo xr S wh)[j]? = some v ∨ plain1 v = true := by
  have e0 : ∀ Z : BS, bkC J n pt xm xo xr Z wh = (jobC J ++ (iv n :: (pt ++ [xm, xo, xr]))) ++ ([iv Z.fa, iv Z.fo, iv Z.fv] ++ [iv Z.count, .bool wh]) := fun Z => by simp [bkC]
  rw [e0] at h ⊢
  generalize (jobC J ++ (iv n :: (pt ++ [xm, xo, xr]))) = L at h ⊢
  by_cases hj : j < L.length
  · rw [List.getElem?_append_left hj] at h ⊢
    exact .inl h
  · rw [List.getElem?_append_right (by omega)] at h ⊢
    right
    generalize j - L.length = i at h
    match i, h with
    | 0, h => cases h; rfl
    | 1, h => cases h; rfl
    | 2, h => cases h; rfl
    | 3, h => cases h; rfl
    | 4, h => cases h; rfl
    | i + 5, h => simp at h
theorem fault_N {H0 H : Heap} (hw0 : H0.WF) {p : Nat} {ow : Nat → Nat} {J : Jb} {n : Int} {wh : Bool} {S : BS} {pt : List Value} {xm xo xr : Value} (B : BK H0 H p ow J n wh S pt xm xo xr) (ok : JbOk H0 J) {k : Nat} (sok : SOk J k S) (hk : k ≤ 300) (hv : validE J = 0)
    {x : Ev} {a : Nat} (hn : n = (cntP J.S).1) (hlt : x.age < n) (ha : x.age = (a : Int)) (h200 : a < 200) {t : Tr} {q : Nat} {yr yw yo yi : Value} (ht : S.tries[a]? = some (some t)) (hq : pt[a]? = some (ptr q)) (T : TrH H ow a q t yr yw yo yi) :
    TE Try.prog 44 [ptr p, .agg (evC x).toArray, ptr q] H (EvQ H0 p J n wh (if x.age = S.count ∧ holdsV S.mem t.reads = true ∧ 2 ≤ x.at' ∧ x.at' ≤ 5 ∧ (wh = true → (taskV J x.age S.mem).1.over = x.at' ∧ (taskV J x.age S.mem).1.value = x.value) then some { S with fa := x.age, fo := x.at', fv := x.value } else none)) := by
  obtain ⟨R, hR⟩ : ∃ R, R = (if x.age = S.count ∧ holdsV S.mem t.reads = true ∧ 2 ≤ x.at' ∧ x.at' ≤ 5 ∧ (wh = true → (taskV J x.age S.mem).1.over = x.at' ∧ (taskV J x.age S.mem).1.value = x.value) then some { S with fa := x.age, fo := x.at', fv := x.value } else none) := ⟨_, rfl⟩
  rw [← hR]
  have hw := B.on.wf
  have tok := sok.tr a t ht
  obtain ⟨HA, hHA⟩ : ∃ HA, HA = H.new 58 6 (evC x) := ⟨_, rfl⟩
  obtain ⟨vx, hvx⟩ : ∃ vx, vx = H.next := ⟨_, rfl⟩
  obtain ⟨owA, howA⟩ : ∃ owA, owA = ow2 ow vx 7777 := ⟨_, rfl⟩
  have onA : On H HA := by rw [hHA]; exact (On.refl hw).new _ _ _
  have A : EA H0 HA p owA J n wh S pt xm xo xr vx x := by
    rw [hHA, hvx, howA]
    exact ⟨B.grow ((On.refl hw).new _ _ _) (fun b hb => by unfold ow2; rw [if_neg (by omega)]), by rw [← hvx]; exact hvx ▸ Vr.mk' hw _ _ _, by unfold ow2; rw [if_pos (by omega)]⟩
  have hHA2 : H.new 58 6 [iv x.kind, iv x.who, iv x.age, iv x.at', iv x.value, iv x.from'] = HA := hHA.symm
  have L := BL.of A.bk.vp A.bk.pl
  have wA := A.bk.on.wf
  have a2 : HA.load ⟨vx, 2, none⟩ = some (iv x.age) := A.v.load 2
  have a3 : HA.load ⟨vx, 3, none⟩ = some (iv x.at') := A.v.load 3
  have a4 : HA.load ⟨vx, 4, none⟩ = some (iv x.value) := A.v.load 4
  have lc := L.lc
  have lw := L.lw
  have lm := L.lm
  obtain ⟨yr, yw, yo, yi, TA⟩ := A.bk.at h200 ht hq
  have hT := holds_T wA (p := p) L.lm A.bk.m TA.vq TA.r (fun c hc => by have := tok.r c hc; have := sok.mem; omega) (by have := tok.lr; omega)
  obtain ⟨c1, hc1⟩ : ∃ b, b = (x.age != (S.count : Int)) := ⟨_, rfl⟩
  cases c1 with
  | true =>
    have hne : x.age ≠ S.count := bne_iff_ne.1 hc1.symm
    rw [if_neg (by simp [hne])] at hR
    refine ⟨.bool false, H, T_seenX hm lightX44 rfl ?_, B.on, .inl ⟨hR, rfl⟩⟩
    simp [L44_eq, hHA2, ← hvx, a2, a3, lc, ← hc1]
    rw [hvx]
    exact ⟨onA.next, onA.keep⟩
  | false =>
  have heq : x.age = S.count := by simpa using hc1.symm
  cases hh : holdsV S.mem t.reads with
  | false =>
    rw [hh] at hT
    rw [if_neg (by simp [hh])] at hR
    refine ⟨.bool false, H, T_seenX hm lightX44 rfl ?_, B.on, .inl ⟨hR, rfl⟩⟩
    simp [L44_eq, hHA2, ← hvx, a2, a3, lc, ← hc1]
    refine goT_of hT ?_
    simp
    rw [hvx]
    exact ⟨onA.next, onA.keep⟩
  | true =>
  rw [hh] at hT
  by_cases g1 : x.at' < 2
  · rw [if_neg (by intro h; omega)] at hR
    refine ⟨.bool false, H, T_seenX hm lightX44 rfl ?_, B.on, .inl ⟨hR, rfl⟩⟩
    simp [L44_eq, hHA2, ← hvx, a2, a3, lc, ← hc1]
    refine goT_of hT ?_
    simp [g1]
    rw [hvx]
    exact ⟨onA.next, onA.keep⟩
  by_cases g2 : 5 < x.at'
  · rw [if_neg (by intro h; omega)] at hR
    refine ⟨.bool false, H, T_seenX hm lightX44 rfl ?_, B.on, .inl ⟨hR, rfl⟩⟩
    simp [L44_eq, hHA2, ← hvx, a2, a3, lc, ← hc1]
    refine goT_of hT ?_
    simp [g1, g2]
    rw [hvx]
    exact ⟨onA.next, onA.keep⟩
  obtain ⟨S1, hS1⟩ : ∃ S1, S1 = { S with fa := x.age, fo := x.at', fv := x.value } := ⟨_, rfl⟩
  have B1 := B.step (H3 := H) hw rfl (Nat.le_refl _) (fun _ _ _ => rfl) (ow' := ow) (fun _ _ => rfl) (S' := S1) (pt' := pt) (xm' := xm) (xo' := xo) (xr' := xr) (by rw [hS1]; exact B.m) (by rw [hS1]; exact B.o) (by rw [hS1]; exact B.r) B.lm B.lo B.lr B.pl (by rw [hS1]; exact B.tl) (fun i hi => .inr ⟨by rw [hS1], rfl⟩)
  have good : R = some S1 → wpA Try.prog L44 (EndA (fun v1 H1 => v1 = .bool true ∧ H.next ≤ H1.next ∧ ∀ b, b < H.next → H1.blk b = (H.put p (bkC J n pt xm xo xr S1 wh)).blk b) [.tmp 6]) (initT [ptr p, .agg (evC x).toArray, ptr q]) (rdy H) → TE Try.prog 44 [ptr p, .agg (evC x).toArray, ptr q] H (EvQ H0 p J n wh R) := fun e1 h => by
    refine ⟨.bool true, _, T_seenPut hm lightX44 rfl (p := p) (cs := bkC J n pt xm xo xr S1 wh) B.vp.bq (Nat.lt_of_lt_of_eq (by decide : 0 < 220) rfl) (by rw [bkC_len _ _ _ _ _ _ _ _ B.pl]; exact (bkC_len _ _ _ _ _ _ _ _ B.pl).symm) (fun j v h => ?_) h, B1.on, .inr ⟨_, _, _, _, _, _, e1, rfl, B1⟩⟩
    rw [hS1] at h
    exact bk_fault _ _ _ _ _ _ _ _ _ _ _ _ _ h
  have cond := show x.age = S.count ∧ holdsV S.mem t.reads = true from ⟨heq, hh⟩
  cases wh with
  | false =>
    rw [if_pos ⟨heq, hh, by omega, by omega, fun e => by cases e⟩, ← hS1] at hR
    refine good hR ?_
    simp [L44_eq, hHA2, ← hvx, a2, a3, lc, ← hc1]
    refine goT_of hT ?_
    simp [g1, g2, lw]
    rw [hvx, hS1]
    exact fault_w B.pl onA.next A.bk.vp A.v onA.keep (by simp) (by simp) (by simp)
  | true =>
    subst hn
    have h0 : ¬ (x.age < 0 ∨ (cntP J.S).1 ≤ x.age) := by omega
    have lJ := bk_job A.bk.vp
    have okA := ok.on hw0 A.bk.on
    have pmA := Own.ints A.bk.m
    obtain ⟨V, hV⟩ : ∃ V, V = taskV J x.age S.mem := ⟨_, rfl⟩
    have kA := task_E wA okA hv h0 pmA sok.mem
    rw [← hV] at kA hR
    obtain ⟨H3, hH3⟩ : ∃ H3, H3 = HA.new 67 6 [.slice none 0 0, .slice none 0 0, .slice none 0 0, iv 0, iv 0, iv 0] := ⟨_, rfl⟩
    have on3 : On HA H3 := by rw [hH3]; exact (On.refl wA).new _ _ _
    have v3 : Vr H3 HA.next 67 6 [.slice none 0 0, .slice none 0 0, .slice none 0 0, iv 0, iv 0, iv 0] := by rw [hH3]; exact Vr.mk' wA _ _ _
    have lJ3 : H3.loadN ⟨p, 0, none⟩ 0 11 = some (jobC J) := bk_job (A.bk.vp.on wA on3)
    have lm3 := load_keepN wA on3.base on3.keep lm
    have a23 : H3.load ⟨vx, 2, none⟩ = some (iv x.age) := (A.v.on wA on3).load 2
    have kB := task_E on3.wf (okA.on wA on3) hv h0 (pmA.keep wA on3.base on3.keep) sok.mem
    rw [← hV] at kB
    -- what stands behind the task's run
    obtain ⟨z1, hz1⟩ : ∃ z, z = (V.1.over != x.at') := ⟨_, rfl⟩
    obtain ⟨z2, hz2⟩ : ∃ z, z = (V.1.value != x.value) := ⟨_, rfl⟩
    by_cases hyes : V.1.over = x.at' ∧ V.1.value = x.value
    · have y1 : z1 = false := by rw [hz1]; simp [hyes.1]
      have y2 : z2 = false := by rw [hz2]; simp [hyes.2]
      rw [if_pos ⟨heq, hh, by omega, by omega, fun _ => hyes⟩, ← hS1] at hR
      refine good hR ?_
      simp [L44_eq, hHA2, ← hvx, a2, a3, lc, ← hc1]
      refine goT_of hT ?_
      simp [g1, g2, lw, lJ, a2, lm]
      constructor
      · refine goA_of wA kA ?_
        rintro o H4 ⟨on4, ym, yo2, yi2, rfl, o0, o1, o2, nb⟩ w4 b4 n4
        have st4 := new_storeA w4 67 6 [.slice none 0 0, .slice none 0 0, .slice none 0 0, iv 0, iv 0, iv 0] [ym, yo2, yi2, iv V.1.over, iv V.1.value, iv V.1.steps] rfl rfl (by decide)
        obtain ⟨H5, hH5⟩ : ∃ H5, H5 = H4.new 67 6 [ym, yo2, yi2, iv V.1.over, iv V.1.value, iv V.1.steps] := ⟨_, rfl⟩
        have on5 : On H4 H5 := by rw [hH5]; exact (On.refl w4).new _ _ _
        have v5 : Vr H5 H4.next 67 6 [ym, yo2, yi2, iv V.1.over, iv V.1.value, iv V.1.steps] := by rw [hH5]; exact Vr.mk' w4 _ _ _
        have onF := on4.trans on5
        have onHF := onA.trans onF
        rw [← hH5] at st4
        have d3 : H5.load ⟨H4.next, 3, none⟩ = some (iv V.1.over) := v5.load 3
        have d4 : H5.load ⟨H4.next, 4, none⟩ = some (iv V.1.value) := v5.load 4
        have a4' : H5.load ⟨vx, 4, none⟩ = some (iv x.value) := (A.v.on wA onF).load 4
        simp [st4, d3, d4, a4', ← hz1, ← hz2, y1, y2]
        rw [hvx, hS1]
        exact fault_w B.pl onHF.next (A.bk.vp.on wA onF) (A.v.on wA onF) onHF.keep (by simp) (by simp) (by simp)
      · simp [← hH3, lJ3, lm3, a23]
        refine goA_of on3.wf kB ?_
        rintro o H4 ⟨on4, ym, yo2, yi2, rfl, o0, o1, o2, nb⟩ w4 b4 n4
        have v4 := v3.on on3.wf on4
        have s4 := v4.storeA (m := 6) (by decide) [ym, yo2, yi2, iv V.1.over, iv V.1.value, iv V.1.steps] rfl rfl
        obtain ⟨H5, hH5⟩ : ∃ H5, H5 = H4.put HA.next [ym, yo2, yi2, iv V.1.over, iv V.1.value, iv V.1.steps] := ⟨_, rfl⟩
        have v5 : Vr H5 HA.next 67 6 [ym, yo2, yi2, iv V.1.over, iv V.1.value, iv V.1.steps] := by rw [hH5]; exact v4.put _
        have onF : On HA H5 := by rw [hH5]; exact (on3.trans on4).put (Nat.le_refl _) _
        have onHF := onA.trans onF
        rw [← hH5] at s4
        have d3 : H5.load ⟨HA.next, 3, none⟩ = some (iv V.1.over) := v5.load 3
        have d4 : H5.load ⟨HA.next, 4, none⟩ = some (iv V.1.value) := v5.load 4
        have a4' : H5.load ⟨vx, 4, none⟩ = some (iv x.value) := (A.v.on wA onF).load 4
        simp [s4, d3, d4, a4', ← hz1, ← hz2, y1, y2]
        rw [hvx, hS1]
        exact fault_w B.pl onHF.next (A.bk.vp.on wA onF) (A.v.on wA onF) onHF.keep (by simp) (by simp) (by simp)
    · have yy : z1 = true ∨ (z1 = false ∧ z2 = true) := by
        by_cases e : V.1.over = x.at'
        · right
          exact ⟨by rw [hz1]; simp [e], by rw [hz2]; exact bne_iff_ne.2 fun h => hyes ⟨e, h⟩⟩
        · left
          rw [hz1]; exact bne_iff_ne.2 e
      rw [if_neg (by simp only [forall_const]; exact fun h => hyes h.2.2.2.2)] at hR
      refine ⟨.bool false, H, T_seenX hm lightX44 rfl ?_, B.on, .inl ⟨hR, rfl⟩⟩
      simp [L44_eq, hHA2, ← hvx, a2, a3, lc, ← hc1]
      refine goT_of hT ?_
      simp [g1, g2, lw, lJ, a2, lm]
      constructor
      · refine goA_of wA kA ?_
        rintro o H4 ⟨on4, ym, yo2, yi2, rfl, o0, o1, o2, nb⟩ w4 b4 n4
        have st4 := new_storeA w4 67 6 [.slice none 0 0, .slice none 0 0, .slice none 0 0, iv 0, iv 0, iv 0] [ym, yo2, yi2, iv V.1.over, iv V.1.value, iv V.1.steps] rfl rfl (by decide)
        obtain ⟨H5, hH5⟩ : ∃ H5, H5 = H4.new 67 6 [ym, yo2, yi2, iv V.1.over, iv V.1.value, iv V.1.steps] := ⟨_, rfl⟩
        have on5 : On H4 H5 := by rw [hH5]; exact (On.refl w4).new _ _ _
        have v5 : Vr H5 H4.next 67 6 [ym, yo2, yi2, iv V.1.over, iv V.1.value, iv V.1.steps] := by rw [hH5]; exact Vr.mk' w4 _ _ _
        have onF := on4.trans on5
        have onHF := onA.trans onF
        rw [← hH5] at st4
        have d3 : H5.load ⟨H4.next, 3, none⟩ = some (iv V.1.over) := v5.load 3
        have d4 : H5.load ⟨H4.next, 4, none⟩ = some (iv V.1.value) := v5.load 4
        have a4' : H5.load ⟨vx, 4, none⟩ = some (iv x.value) := (A.v.on wA onF).load 4
        rcases yy with y1 | ⟨y1, y2⟩
        · simp [st4, d3, d4, a4', ← hz1, ← hz2, y1]
          rw [hvx]
          exact ⟨onHF.next, onHF.keep⟩
        · simp [st4, d3, d4, a4', ← hz1, ← hz2, y1, y2]
          rw [hvx]
          exact ⟨onHF.next, onHF.keep⟩
      · simp [← hH3, lJ3, lm3, a23]
        refine goA_of on3.wf kB ?_
        rintro o H4 ⟨on4, ym, yo2, yi2, rfl, o0, o1, o2, nb⟩ w4 b4 n4
        have v4 := v3.on on3.wf on4
        have s4 := v4.storeA (m := 6) (by decide) [ym, yo2, yi2, iv V.1.over, iv V.1.value, iv V.1.steps] rfl rfl
        obtain ⟨H5, hH5⟩ : ∃ H5, H5 = H4.put HA.next [ym, yo2, yi2, iv V.1.over, iv V.1.value, iv V.1.steps] := ⟨_, rfl⟩
        have v5 : Vr H5 HA.next 67 6 [ym, yo2, yi2, iv V.1.over, iv V.1.value, iv V.1.steps] := by rw [hH5]; exact v4.put _
        have onF : On HA H5 := by rw [hH5]; exact (on3.trans on4).put (Nat.le_refl _) _
        have onHF := onA.trans onF
        rw [← hH5] at s4
        have d3 : H5.load ⟨HA.next, 3, none⟩ = some (iv V.1.over) := v5.load 3
        have d4 : H5.load ⟨HA.next, 4, none⟩ = some (iv V.1.value) := v5.load 4
        have a4' : H5.load ⟨vx, 4, none⟩ = some (iv x.value) := (A.v.on wA onF).load 4
        rcases yy with y1 | ⟨y1, y2⟩
        · simp [s4, d3, d4, a4', ← hz1, ← hz2, y1]
          rw [hvx]
          exact ⟨onHF.next, onHF.keep⟩
        · simp [s4, d3, d4, a4', ← hz1, ← hz2, y1, y2]
          rw [hvx]
          exact ⟨onHF.next, onHF.keep⟩
end Go.Proofs.Ytjkfghekdcalhaa
