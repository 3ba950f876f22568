/-
  Chapter 27: TraceCuts. Chapter 27: openings of a job, of events; TraceCuts at every input.
-/
import Derived.Test.YtjkfghekdcalhaaSeatK
import Derived.Test.YtjkfghekdcalhaaOtZ
namespace Go.Proofs.Ytjkfghekdcalhaa
open Go.Ot Go.RowKit
open R14 (Twos ci joinV addN ontoN)
set_option linter.unusedSimpArgs false
set_option linter.unusedVariables false
theorem check_E {H : Heap} (hw : H.WF) {J : Jb} (ok : JbOk H J) {y : Value} {l : List Ev} (hy : Rws H 6 y (l.map evC)) (hl : l.length ≤ 300) : TE Try.prog 7 [.agg (jobC J).toArray, y] H (LookQ H (lookV false J l)) := by
  refine TE_by hm light7 ?_
  obtain ⟨HA, hHA⟩ : ∃ HA, HA = H.new 29 11 (jobC J) := ⟨_, rfl⟩
  have onA : On H HA := by rw [hHA]; exact (On.refl hw).new _ _ _
  have vA : Vr HA H.next 29 11 (jobC J) := by rw [hHA]; exact Vr.mk' hw _ _ _
  have nA : HA.next = H.next + 1 := by rw [hHA]; rfl
  obtain ⟨HB, hHB⟩ : ∃ HB, HB = HA.new 37 7 [.slice none 0 0, .slice none 0 0, .slice none 0 0, iv 0, iv 0, iv 0, iv 0] := ⟨_, rfl⟩
  have onB : On HA HB := by rw [hHB]; exact (On.refl onA.wf).new _ _ _
  have vB : Vr HB (H.next + 1) 37 7 [.slice none 0 0, .slice none 0 0, .slice none 0 0, iv 0, iv 0, iv 0, iv 0] := by rw [hHB, ← nA]; exact Vr.mk' onA.wf _ _ _
  have nB : HB.next = H.next + 2 := by rw [hHB]; simp [nA]
  have lA := (JL.of (vA.on onA.wf onB)).lA
  have onHB := onA.trans onB
  have wB := onHB.wf
  have hHA2 : H.new 29 11 [iv J.words, J.xc, J.xr, iv J.fuel, iv J.S.kind, iv J.S.lo, iv J.S.hi, iv J.S.step, iv J.S.items, iv J.S.stages, J.xk] = HA := hHA.symm
  have kE := look_N (wh := false) wB (ok.on hw onHB) (Rws.keep hw onHB.base onHB.keep hy) hl
  simp [L7, hHA2, ← hHB, nA, lA]
  refine goA_of wB kE ?_
  rintro o H1 ⟨on1, x0, x1, x2, a, b, c, d, rfl, hS, hN⟩ w1 b1 n1
  have v1 := vB.on wB on1
  have s1 := v1.storeA (m := 7) (by decide) [x0, x1, x2, iv a, iv b, iv c, iv d] rfl rfl
  obtain ⟨H2, hH2⟩ : ∃ H2, H2 = H1.put (H.next + 1) [x0, x1, x2, iv a, iv b, iv c, iv d] := ⟨_, rfl⟩
  have l2 : H2.loadN ⟨H.next + 1, 0, none⟩ 0 7 = some [x0, x1, x2, iv a, iv b, iv c, iv d] := by rw [hH2]; exact (v1.put _).loadA rfl
  rw [← hH2] at s1
  simp [s1, l2]
  refine ⟨by rw [hH2]; exact (onHB.trans on1).put (by omega) _, _, _, _, _, _, _, _, rfl, fun S h => ?_, hN⟩
  obtain ⟨e1, e2, e3, e4, o0, o1, o2, nb⟩ := hS S h
  have kp : ∀ {ety sz m : Nat} {cs : List Value} {y : Value} (h : Own H1 ety sz m cs y), (∀ b, blkOf y = some b → HB.next ≤ b) → Own H2 ety sz m cs y := fun h h1 => h.keep (by rw [hH2]; simp) (fun b hb => by have := h1 b hb; rw [hH2]; simp [show b ≠ H.next + 1 by omega])
  exact ⟨e1, e2, e3, e4, kp o0 (fun b hb => nb b (.inl hb)), kp o1 (fun b hb => nb b (.inr (.inl hb))), kp o2 (fun b hb => nb b (.inr (.inr hb))), fun b hb => by have := nb b hb; omega⟩
theorem rws_take {H : Heap} {sz : Nat} {x : Value} {l : List (List Value)} (h : Rws H sz x l) {j : Nat} (hj : j ≤ l.length) : ∃ y, sSlice sz x none (some (iv j)) (some (iv j)) = some y ∧ Rws H sz y (l.take j) := by
  rcases h with ⟨rfl, rfl⟩ | ⟨b, off, c, rfl, hh⟩
  · have hj0 : j = 0 := by simpa using hj
    subst hj0
    exact ⟨.slice none 0 0, by simp [sSlice, bnd], .inl ⟨rfl, by simp⟩⟩
  · have hlen : (l.take j).length = j := by rw [List.length_take]; omega
    obtain ⟨c', hc'⟩ : ∃ c', sSlice sz (.slice (some ⟨b, off, none⟩) l.length c) none (some (iv j)) (some (iv j)) = some (.slice (some ⟨b, off, none⟩) j c') := by
      simp only [sSlice, bnd]
      simp [hj, add_own]
    refine ⟨_, hc', .inr ⟨b, off, c', by rw [hlen], fun k hk => ?_⟩⟩
    rw [hlen] at hk
    have := hh k (by omega)
    simp only [List.getElem_take]
    exact this
/-- A place in a row, of any number. -/
def cutN (many : Int) (n : Nat) : Nat := ((many.tmod (n + 1) + n + 1).tmod (n + 1)).toNat
theorem cutN_le (many : Int) (n : Nat) : cutN many n ≤ n ∧ (many.tmod (n + 1) + n + 1).tmod (n + 1) = (cutN many n : Int) ∧ 0 ≤ many.tmod (n + 1) + n + 1 ∧ many.tmod (n + 1) ≤ n ∧ -(n : Int) ≤ many.tmod (n + 1) := by
  have h1 : many.tmod (n + 1) ≤ n := by
    have := Int.tmod_lt_of_pos many (show (0 : Int) < n + 1 by omega); omega
  have h2 : -(n : Int) ≤ many.tmod (n + 1) := by
    have := Int.tmod_lt_of_pos (-many) (show (0 : Int) < n + 1 by omega)
    rw [Int.neg_tmod] at this; omega
  have h3 : 0 ≤ many.tmod (n + 1) + n + 1 := by omega
  have h4 := Int.tmod_nonneg (n + 1 : Int) h3
  have h5 := Int.tmod_lt_of_pos (many.tmod (n + 1) + n + 1) (show (0 : Int) < n + 1 by omega)
  refine ⟨?_, ?_, h3, h1, h2⟩
  · unfold cutN; omega
  · unfold cutN; omega
theorem run_none (wh : Bool) (J : Jb) (n : Int) : ∀ (l : List Ev) (S : BS) (i : Nat), (runE wh J n S l i).2.1 = 0 → ∃ S', (runE wh J n S l i).2.2 = some S'
  | [], S, i, _ => ⟨S, rfl⟩
  | x :: l, S, i, h => by
    simp only [runE] at h ⊢
    cases hs : stepE wh J n S x with
    | none => rw [hs] at h; simp at h
    | some S' => rw [hs] at h; exact run_none wh J n l S' (i + 1) h
/-- What two looks at a trace, whole and cut, have in common. -/
theorem cut_law (J : Jb) (l : List Ev) {m : Nat} (hm : m ≤ l.length) :
    ((lookV false J l).2.1 = 0 → (lookV false J (l.take m)).2.1 = 0 ∧ ∃ S, (lookV false J (l.take m)).2.2 = some S) ∧
    ((lookV false J l).2.1 ≠ 0 → (lookV false J l).2.1 ≠ 270 → (lookV false J (l.take m)).2.1 = (lookV false J l).2.1) ∧
    ((lookV false J l).2.1 = 270 → validE J = 0 → ((lookV false J l).1 < m → (lookV false J (l.take m)).2.1 = 270 ∧ (lookV false J (l.take m)).1 = (lookV false J l).1) ∧ (m ≤ (lookV false J l).1 → (lookV false J (l.take m)).2.1 = 0 ∧ (lookV false J (l.take m)).1 = 0)) := by
  unfold lookV
  by_cases hv : validE J = 0
  · rw [if_neg (by simpa using hv), if_neg (by simpa using hv)]
    obtain ⟨c1, c2⟩ := runE_cut false J (cntP J.S).1 l (beginS J) 0 m hm
    refine ⟨fun h => ⟨(c1 h).2, run_none _ _ _ _ _ _ (c1 h).2⟩, fun h h2 => absurd (c2 h).1 h2, fun h _ => ?_⟩
    obtain ⟨_, _, c3, c4⟩ := c2 (by omega)
    exact ⟨fun h1 => ⟨(c3 (by omega)).2, (c3 (by omega)).1⟩, fun h1 => ⟨(c4 (by omega)).2, (c4 (by omega)).1⟩⟩
  · rw [if_pos hv, if_pos hv]
    exact ⟨fun h => absurd h hv, fun _ _ => rfl, fun _ h => absurd h hv⟩
theorem one_ne (x : I8.In) (c l : Int) : I8.oneV x c l ≠ 270 := by
  unfold I8.oneV
  repeat' split
  all_goals decide
theorem fst_ne (c n : Int) : ∀ (l : List I8.In) (i : Nat) (r : Nat × Int), I8.fstBad c n l i = some r → r.2 ≠ 270
  | [], i, r, h => by simp [I8.fstBad] at h
  | x :: l, i, r, h => by
    simp only [I8.fstBad] at h
    split at h
    · exact fst_ne c n l (i + 1) r h
    · cases h; exact one_ne x c n
theorem check_ne (l : List I8.In) (c : Int) : (I8.checkV l c).2 ≠ 270 := by
  unfold I8.checkV
  split
  · decide
  · split
    · rename_i i e h; exact fst_ne _ _ _ _ _ h
    · split <;> simp
theorem code_ne (n : Int) : ∀ l : List (List I8.In), codeE n l ≠ 270
  | [] => by simp [codeE]
  | c :: l => by
    simp only [codeE]
    split
    · exact check_ne c n
    · exact code_ne n l
theorem of_ne (w : Int) : ∀ (l : List (Int × Int)) (s : List Int), ofGo w l s ≠ 270
  | [], s => by simp [ofGo]
  | c :: l, s => by
    simp only [ofGo]
    split
    · decide
    · split
      · decide
      · exact of_ne w l _
theorem valid_ne (J : Jb) : validE J ≠ 270 := by
  unfold validE
  split
  · unfold ofE
    split
    · decide
    · exact of_ne _ _ _
  split
  · unfold R14.chkC
    split
    · decide
    · split <;> decide
  split
  · decide
  split
  · unfold cntP
    repeat' split
    all_goals simp
  split
  · decide
  · exact code_ne _ _
theorem ok_of {H : Heap} {J : Jb} (h : Jb0 H J) (hg : greatV J = false) : JbOk H J := by
  simp [greatV] at hg
  exact ⟨h.xc, h.xr, h.xk, h.S, by omega, by omega, by omega, h.kinds⟩
def L3t : LCode :=
 .seq (.seq (.region [⟨some 50, .move (.tmp 9), none⟩,
  ⟨some 51, .bin .eql (.tmp 50) (.const (.int .i64 0)), none⟩])
 (.cond (.tmp 51) (.seq (.region [⟨some 52, .move (.tmp 12), none⟩,
  ⟨some 53, .bin .eql (.tmp 52) (.const (.int .i64 0)), none⟩,
  ⟨some 54, .move (.tmp 53), none⟩,
  ⟨some 55, .off 6 (.tmp 10), (some (54, true))⟩,
  ⟨some 56, .load false 1 (.tmp 55), (some (54, true))⟩,
  ⟨some 57, .bin .geq (.tmp 56) (.const (.int .i64 0)), (some (54, true))⟩,
  ⟨some 58, .pick (.tmp 54) (.tmp 57) (.const (.bool false)), none⟩,
  ⟨some 59, .move (.tmp 58), none⟩,
  ⟨some 60, .call 8 [], (some (59, true))⟩,
  ⟨some 61, .pick (.tmp 59) (.tmp 60) (.const (.bool false)), none⟩,
  ⟨some 6, .move (.tmp 61), none⟩])
 (.ret))
 (.skip)))
 (.seq (.seq (.region [⟨some 62, .move (.tmp 9), none⟩,
  ⟨some 63, .bin .neq (.tmp 62) (.const (.int .i64 270)), none⟩])
 (.cond (.tmp 63) (.seq (.region [⟨some 64, .move (.tmp 12), none⟩,
  ⟨some 65, .move (.tmp 9), none⟩,
  ⟨some 66, .bin .eql (.tmp 64) (.tmp 65), none⟩,
  ⟨some 67, .move (.tmp 66), none⟩,
  ⟨some 68, .call 8 [], (some (67, true))⟩,
  ⟨some 69, .pick (.tmp 67) (.tmp 68) (.const (.bool false)), none⟩,
  ⟨some 6, .move (.tmp 69), none⟩])
 (.ret))
 (.skip)))
 (.seq (.seq (.region [⟨some 70, .move (.tmp 2), none⟩,
  ⟨some 71, .move (.tmp 8), none⟩,
  ⟨some 72, .bin .gtr (.tmp 70) (.tmp 71), none⟩])
 (.cond (.tmp 72) (.seq (.region [⟨some 73, .move (.tmp 12), none⟩,
  ⟨some 74, .bin .eql (.tmp 73) (.const (.int .i64 270)), none⟩,
  ⟨some 75, .move (.tmp 74), none⟩,
  ⟨some 76, .move (.tmp 11), (some (75, true))⟩,
  ⟨some 77, .move (.tmp 8), (some (75, true))⟩,
  ⟨some 78, .bin .eql (.tmp 76) (.tmp 77), (some (75, true))⟩,
  ⟨some 79, .pick (.tmp 75) (.tmp 78) (.const (.bool false)), none⟩,
  ⟨some 80, .move (.tmp 79), none⟩,
  ⟨some 81, .call 8 [], (some (80, true))⟩,
  ⟨some 82, .pick (.tmp 80) (.tmp 81) (.const (.bool false)), none⟩,
  ⟨some 6, .move (.tmp 82), none⟩])
 (.ret))
 (.skip)))
 (.seq (.region [⟨some 83, .move (.tmp 12), none⟩,
  ⟨some 84, .bin .eql (.tmp 83) (.const (.int .i64 0)), none⟩,
  ⟨some 85, .move (.tmp 84), none⟩,
  ⟨some 86, .move (.tmp 11), (some (85, true))⟩,
  ⟨some 87, .bin .eql (.tmp 86) (.const (.int .i64 0)), (some (85, true))⟩,
  ⟨some 88, .pick (.tmp 85) (.tmp 87) (.const (.bool false)), none⟩,
  ⟨some 89, .move (.tmp 88), none⟩,
  ⟨some 90, .call 8 [], (some (89, true))⟩,
  ⟨some 91, .pick (.tmp 89) (.tmp 90) (.const (.bool false)), none⟩,
  ⟨some 6, .move (.tmp 91), none⟩])
 (.ret))))
theorem L3_eq : L3 =
 .seq (.region [⟨some 3, .box 29 11 (.tmp 0), none⟩,
  ⟨some 6, .move (.const (.bool false)), none⟩])
 (.seq (.seq (.region [⟨some 13, .load true 11 (.tmp 3), none⟩,
  ⟨some 14, .call 6 [.tmp 13], none⟩,
  ⟨some 15, .move (.tmp 14), none⟩,
  ⟨some 16, .move (.tmp 1), (some (15, false))⟩,
  ⟨some 17, .len (.tmp 16), (some (15, false))⟩,
  ⟨some 18, .bin .gtr (.tmp 17) (.const (.int .i64 300)), (some (15, false))⟩,
  ⟨some 19, .pick (.tmp 15) (.const (.bool true)) (.tmp 18), none⟩])
 (.cond (.tmp 19) (.seq (.region [⟨some 6, .move (.const (.bool true)), none⟩])
 (.ret))
 (.skip)))
 (.seq (.region [⟨some 20, .move (.tmp 2), none⟩,
  ⟨some 21, .move (.tmp 1), none⟩,
  ⟨some 22, .len (.tmp 21), none⟩,
  ⟨some 23, .bin .add (.tmp 22) (.const (.int .i64 1)), none⟩,
  ⟨some 24, .bin .rem (.tmp 20) (.tmp 23), none⟩,
  ⟨some 25, .move (.tmp 1), none⟩,
  ⟨some 26, .len (.tmp 25), none⟩,
  ⟨some 27, .bin .add (.tmp 24) (.tmp 26), none⟩,
  ⟨some 28, .bin .add (.tmp 27) (.const (.int .i64 1)), none⟩,
  ⟨some 29, .move (.tmp 1), none⟩,
  ⟨some 30, .len (.tmp 29), none⟩,
  ⟨some 31, .bin .add (.tmp 30) (.const (.int .i64 1)), none⟩,
  ⟨some 32, .bin .rem (.tmp 28) (.tmp 31), none⟩,
  ⟨some 2, .move (.tmp 32), none⟩])
 (.seq (.region [⟨some 34, .load true 11 (.tmp 3), none⟩,
  ⟨some 35, .move (.tmp 1), none⟩,
  ⟨some 36, .call 7 [.tmp 34, .tmp 35], none⟩,
  ⟨some 33, .move (.tmp 36), none⟩,
  ⟨some 37, .extract (.tmp 33) 0, none⟩,
  ⟨some 38, .extract (.tmp 33) 1, none⟩,
  ⟨some 39, .extract (.tmp 33) 2, none⟩,
  ⟨some 7, .new 37 7 [.slice none 0 0, .slice none 0 0, .slice none 0 0, .int .i64 0, .int .i64 0, .int .i64 0, .int .i64 0], none⟩,
  ⟨none, .store 7 (.tmp 7) (.tmp 37), none⟩,
  ⟨some 8, .move (.tmp 38), none⟩,
  ⟨some 9, .move (.tmp 39), none⟩])
 (.seq (.alts [[⟨⟨some 41, .load true 11 (.tmp 3), none⟩, .read, 0, 0⟩,
  ⟨⟨some 42, .move (.tmp 1), none⟩, .pure, 0, 0⟩,
  ⟨⟨some 43, .move (.tmp 2), none⟩, .pure, 0, 0⟩,
  ⟨⟨some 44, .move (.tmp 2), none⟩, .pure, 0, 0⟩,
  ⟨⟨some 45, .slice 6 (.tmp 42) none (some (.tmp 43)) (some (.tmp 44)), none⟩, .pure, 0, 0⟩,
  ⟨⟨some 46, .call 7 [.tmp 41, .tmp 45], none⟩, .heavy, 0, 1⟩,
  ⟨⟨some 40, .move (.tmp 46), none⟩, .pure, 1, 2⟩,
  ⟨⟨some 47, .extract (.tmp 40) 0, none⟩, .pure, 1, 2⟩,
  ⟨⟨some 48, .extract (.tmp 40) 1, none⟩, .pure, 1, 3⟩,
  ⟨⟨some 49, .extract (.tmp 40) 2, none⟩, .pure, 1, 3⟩,
  ⟨⟨some 10, .new 37 7 [.slice none 0 0, .slice none 0 0, .slice none 0 0, .int .i64 0, .int .i64 0, .int .i64 0, .int .i64 0], none⟩, .heavy, 1, 2⟩,
  ⟨⟨none, .store 7 (.tmp 10) (.tmp 47), none⟩, .heavy, 2, 3⟩,
  ⟨⟨some 11, .move (.tmp 48), none⟩, .pure, 3, 3⟩,
  ⟨⟨some 12, .move (.tmp 49), none⟩, .pure, 3, 3⟩],
 [⟨⟨some 41, .load true 11 (.tmp 3), none⟩, .read, 0, 1⟩,
  ⟨⟨some 42, .move (.tmp 1), none⟩, .pure, 0, 1⟩,
  ⟨⟨some 43, .move (.tmp 2), none⟩, .pure, 0, 1⟩,
  ⟨⟨some 44, .move (.tmp 2), none⟩, .pure, 0, 1⟩,
  ⟨⟨some 45, .slice 6 (.tmp 42) none (some (.tmp 43)) (some (.tmp 44)), none⟩, .pure, 0, 1⟩,
  ⟨⟨some 10, .new 37 7 [.slice none 0 0, .slice none 0 0, .slice none 0 0, .int .i64 0, .int .i64 0, .int .i64 0, .int .i64 0], none⟩, .heavy, 0, 1⟩,
  ⟨⟨some 46, .call 7 [.tmp 41, .tmp 45], none⟩, .heavy, 1, 2⟩,
  ⟨⟨some 40, .move (.tmp 46), none⟩, .pure, 2, 2⟩,
  ⟨⟨some 47, .extract (.tmp 40) 0, none⟩, .pure, 2, 2⟩,
  ⟨⟨some 48, .extract (.tmp 40) 1, none⟩, .pure, 2, 3⟩,
  ⟨⟨some 49, .extract (.tmp 40) 2, none⟩, .pure, 2, 3⟩,
  ⟨⟨none, .store 7 (.tmp 10) (.tmp 47), none⟩, .heavy, 2, 3⟩,
  ⟨⟨some 11, .move (.tmp 48), none⟩, .pure, 3, 3⟩,
  ⟨⟨some 12, .move (.tmp 49), none⟩, .pure, 3, 3⟩]])
 L3t)))) := rfl
theorem tail_w {H0 H : Heap} (hn : H0.next ≤ H.next) {t : Tm} {e f i k d : Int} {m r : Nat} (t2 : t 2 = iv m) (t8 : t 8 = iv i) (t9 : t 9 = iv e) (t10 : t 10 = ptr r) (t11 : t 11 = iv k) (t12 : t 12 = iv f) (ld : H.load ⟨r, 6, none⟩ = some (iv d)) (hk : ∀ b, b < H0.next → H.blk b = H0.blk b)
    (c1 : e = 0 → f = 0 ∧ 0 ≤ d) (c2 : e ≠ 0 → e ≠ 270 → f = e) (c3 : e = 270 → i < m → f = 270 ∧ k = i) (c4 : e = 270 → ¬ i < m → f = 0 ∧ k = 0) :
    wpA Try.prog L3t (EndA (fun v1 H1 => v1 = .bool true ∧ H0.next ≤ H1.next ∧ ∀ b, b < H0.next → H1.blk b = H0.blk b) [.tmp 6]) t (rdy H) := by
  have al := alive_T H
  by_cases h0 : e = 0
  · obtain ⟨hf, hd⟩ := c1 h0
    simp [L3t, t9, h0, t12, hf, t10, ld, hd]
    refine goT_of al ?_
    simp
    exact ⟨hn, hk⟩
  have e0 : (e == 0) = false := by simp [h0]
  by_cases h2 : e = 270
  · have e2 : (e != 270) = false := by simp [h2]
    by_cases h3 : i < m
    · obtain ⟨hf, hkk⟩ := c3 h2 h3
      simp [L3t, t9, e0, e2, t2, t8, h3, t12, hf, t11, hkk]
      refine goT_of al ?_
      simp
      exact ⟨hn, hk⟩
    · obtain ⟨hf, hkk⟩ := c4 h2 h3
      simp [L3t, t9, e0, e2, t2, t8, h3, t12, hf, t11, hkk]
      refine goT_of al ?_
      simp
      exact ⟨hn, hk⟩
  · have e2 : (e != 270) = true := bne_iff_ne.2 h2
    have hf := c2 h0 h2
    simp [L3t, t9, e0, e2, t12, hf]
    refine goT_of al ?_
    simp
    exact ⟨hn, hk⟩
theorem cuts_T {H : Heap} (hw : H.WF) {J : Jb} (jb : Jb0 H J) {y : Value} {l : List Ev} (hy : Rws H 6 y (l.map evC)) (many : Int) (hmany : -9223372036854775808 ≤ many ∧ many ≤ 9223372036854775807) : T Try.prog 3 [.agg (jobC J).toArray, y, iv many] H (.bool true) H := by
  refine T_seenX hm lightX3 rfl ?_
  rw [L3_eq]
  obtain ⟨HA, hHA⟩ : ∃ HA, HA = H.new 29 11 (jobC J) := ⟨_, rfl⟩
  have onA : On H HA := by rw [hHA]; exact (On.refl hw).new _ _ _
  have vA : Vr HA H.next 29 11 (jobC J) := by rw [hHA]; exact Vr.mk' hw _ _ _
  have nA : HA.next = H.next + 1 := by rw [hHA]; rfl
  have wA := onA.wf
  have lA := (JL.of vA).lA
  have hHA2 : H.new 29 11 [iv J.words, J.xc, J.xr, iv J.fuel, iv J.S.kind, iv J.S.lo, iv J.S.hi, iv J.S.step, iv J.S.items, iv J.S.stages, J.xk] = HA := hHA.symm
  have gT := great_T wA (jb.on hw onA)
  obtain ⟨ay, cy, hye⟩ := hy.len
  rw [List.length_map] at hye
  cases hg : greatV J with
  | true =>
    rw [hg] at gT
    simp [hHA2, lA]
    refine goT_of gT ?_
    simp
    exact ⟨onA.next, onA.keep⟩
  | false =>
  rw [hg] at gT
  by_cases hl : 300 < l.length
  · have hlI : (300 : Int) < (l.length : Int) := by omega
    simp [hHA2, lA]
    refine goT_of gT ?_
    rw [hye]
    simp [hl, hlI]
    exact ⟨onA.next, onA.keep⟩
  have hlI : ¬ (300 : Int) < (l.length : Int) := by omega
  have ok := ok_of jb hg
  obtain ⟨hml, hmt, h1, h2, h3⟩ := cutN_le many l.length
  obtain ⟨m, hm⟩ : ∃ m, m = cutN many l.length := ⟨_, rfl⟩
  rw [← hm] at hml hmt
  obtain ⟨r1, hr1⟩ : ∃ r, r = many.tmod ((l.length : Int) + 1) := ⟨_, rfl⟩
  rw [← hr1] at hmt h1 h2 h3
  have wl : IntKind.i64.wrap ((l.length : Int) + 1) = (l.length : Int) + 1 := w64 _ (by omega)
  have w2 : IntKind.i64.wrap (r1 + (l.length : Int)) = r1 + l.length := w64 _ (by omega)
  have w3 : IntKind.i64.wrap (r1 + (l.length : Int) + 1) = r1 + l.length + 1 := w64 _ (by omega)
  obtain ⟨n1, hn1⟩ : ∃ n : Int, n = (l.length : Int) + 1 := ⟨_, rfl⟩
  have n0 : ¬ n1 = 0 := by omega
  have rm1 : sBin .rem (iv many) (iv n1) = some (iv r1) := by rw [sBin_rem, if_neg n0, hr1, hn1]
  obtain ⟨r2, hr2⟩ : ∃ n : Int, n = r1 + l.length := ⟨_, rfl⟩
  obtain ⟨r3, hr3⟩ : ∃ n : Int, n = r2 + 1 := ⟨_, rfl⟩
  rw [← hn1] at wl hmt
  rw [← hr2] at w2 w3
  rw [← hr3] at w3
  have hmt' : r3.tmod n1 = (m : Int) := by rw [hr3, hr2]; exact hmt
  have rm2 : sBin .rem (iv r3) (iv n1) = some (iv m) := by rw [sBin_rem, if_neg n0, hmt']
  have okA := ok.on hw onA
  have hyA := Rws.keep hw onA.base onA.keep hy
  have k1 := check_E wA okA hyA (by omega)
  obtain ⟨E1, hE1⟩ : ∃ E, E = lookV false J l := ⟨_, rfl⟩
  rw [← hE1] at k1
  obtain ⟨E2, hE2⟩ : ∃ E, E = lookV false J (l.take m) := ⟨_, rfl⟩
  obtain ⟨q1, q2, q3⟩ := cut_law J l hml
  rw [← hE1, ← hE2] at q1 q2 q3
  have v270 : E1.2.1 = 270 → validE J = 0 := fun h => by
    by_cases hv : validE J = 0
    · exact hv
    · unfold lookV at hE1
      rw [if_pos hv] at hE1
      rw [hE1] at h
      exact absurd h (valid_ne J)
  simp [hHA2, lA]
  refine goT_of gT ?_
  rw [hye]
  simp [hl, hlI, ← hn1, wl, rm1, ← hr2, w2, ← hr3, w3, rm2, lA]
  rw [← hye]
  refine goA_of wA k1 ?_
  rintro o H1 ⟨on1, x0, x1, x2, a, b, c, d, rfl, hS1, _⟩ w1 b1 n1'
  have st := new_storeA w1 37 7 [.slice none 0 0, .slice none 0 0, .slice none 0 0, iv 0, iv 0, iv 0, iv 0] [x0, x1, x2, iv a, iv b, iv c, iv d] rfl rfl (by decide)
  obtain ⟨H2, hH2⟩ : ∃ H2, H2 = H1.new 37 7 [x0, x1, x2, iv a, iv b, iv c, iv d] := ⟨_, rfl⟩
  have on2 : On H1 H2 := by rw [hH2]; exact (On.refl w1).new _ _ _
  rw [← hH2] at st
  have onA2 := on1.trans on2
  have onH2 := onA.trans onA2
  have ws2 := onH2.wf
  have lA2 := (JL.of (vA.on wA onA2)).lA
  have hy2 := Rws.keep hw onH2.base onH2.keep hy
  have ok2 := ok.on hw onH2
  obtain ⟨y', sl, hy'⟩ := rws_take hy2 (j := m) (by simpa using hml)
  rw [← List.map_take] at hy'
  rw [hye] at sl
  have lt : (l.take m).length ≤ 300 := by rw [List.length_take]; omega
  -- the other order: the variable first
  obtain ⟨H3, hH3⟩ : ∃ H3, H3 = H2.new 37 7 [.slice none 0 0, .slice none 0 0, .slice none 0 0, iv 0, iv 0, iv 0, iv 0] := ⟨_, rfl⟩
  have on3 : On H2 H3 := by rw [hH3]; exact (On.refl ws2).new _ _ _
  have v3 : Vr H3 H2.next 37 7 [.slice none 0 0, .slice none 0 0, .slice none 0 0, iv 0, iv 0, iv 0, iv 0] := by rw [hH3]; exact Vr.mk' ws2 _ _ _
  have lA3 := (JL.of ((vA.on wA onA2).on ws2 on3)).lA
  have kA := check_E ws2 ok2 hy' lt
  have kB := check_E on3.wf (ok2.on ws2 on3) (Rws.keep ws2 on3.base on3.keep hy') lt
  rw [← hE2] at kA kB
  have f1 : ∀ d2 : Int, (∀ S, E2.2.2 = some S → d2 = S.count) → (E1.2.1 = 0 → E2.2.1 = 0 ∧ 0 ≤ d2) := fun d2 hd h => by
    obtain ⟨h1, S, hS⟩ := q1 h
    exact ⟨h1, by rw [hd S hS]; omega⟩
  have f3 : E1.2.1 = 270 → (E1.1 : Int) < m → E2.2.1 = 270 ∧ (E2.1 : Int) = E1.1 := fun h1 h2 => by
    obtain ⟨h3, h4⟩ := (q3 h1 (v270 h1)).1 (by omega)
    exact ⟨h3, by rw [h4]⟩
  have f4 : E1.2.1 = 270 → ¬ (E1.1 : Int) < m → E2.2.1 = 0 ∧ (E2.1 : Int) = 0 := fun h1 h2 => by
    obtain ⟨h3, h4⟩ := (q3 h1 (v270 h1)).2 (by omega)
    exact ⟨h3, by rw [h4]; rfl⟩
  simp [st, lA2]
  rw [hye]
  simp [sl]
  constructor
  · refine goA_of ws2 kA ?_
    rintro o H4 ⟨on4, z0, z1, z2, a2, b2, c2, d2, rfl, hS2, _⟩ w4 b4 n4
    have st4 := new_storeA w4 37 7 [.slice none 0 0, .slice none 0 0, .slice none 0 0, iv 0, iv 0, iv 0, iv 0] [z0, z1, z2, iv a2, iv b2, iv c2, iv d2] rfl rfl (by decide)
    obtain ⟨H5, hH5⟩ : ∃ H5, H5 = H4.new 37 7 [z0, z1, z2, iv a2, iv b2, iv c2, iv d2] := ⟨_, rfl⟩
    have on5 : On H4 H5 := by rw [hH5]; exact (On.refl w4).new _ _ _
    have v5 : Vr H5 H4.next 37 7 [z0, z1, z2, iv a2, iv b2, iv c2, iv d2] := by rw [hH5]; exact Vr.mk' w4 _ _ _
    have onF := (onH2.trans on4).trans on5
    rw [← hH5] at st4
    simp [st4]
    exact tail_w (H0 := H) (e := E1.2.1) (f := E2.2.1) (i := E1.1) (k := E2.1) (d := d2) (m := m) (r := H4.next) onF.next (by simp) (by simp) (by simp) (by simp) (by simp) (by simp) (v5.load 6) onF.keep (f1 d2 (fun S h => (hS2 S h).2.2.2.1)) q2 f3 f4
  · simp [← hH3, lA3]
    refine goA_of on3.wf kB ?_
    rintro o H4 ⟨on4, z0, z1, z2, a2, b2, c2, d2, rfl, hS2, _⟩ w4 b4 n4
    have v4 := v3.on on3.wf on4
    have s4 := v4.storeA (m := 7) (by decide) [z0, z1, z2, iv a2, iv b2, iv c2, iv d2] rfl rfl
    obtain ⟨H5, hH5⟩ : ∃ H5, H5 = H4.put H2.next [z0, z1, z2, iv a2, iv b2, iv c2, iv d2] := ⟨_, rfl⟩
    have v5 : Vr H5 H2.next 37 7 [z0, z1, z2, iv a2, iv b2, iv c2, iv d2] := by rw [hH5]; exact v4.put _
    have onF : On H H5 := by rw [hH5]; exact ((onH2.trans on3).trans on4).put onH2.next _
    rw [← hH5] at s4
    simp [s4]
    exact tail_w (H0 := H) (e := E1.2.1) (f := E2.2.1) (i := E1.1) (k := E2.1) (d := d2) (m := m) (r := H2.next) onF.next (by simp) (by simp) (by simp) (by simp) (by simp) (by simp) (v5.load 6) onF.keep (f1 d2 (fun S h => (hS2 S h).2.2.2.1)) q2 f3 f4
end Go.Proofs.Ytjkfghekdcalhaa
namespace Go.Proofs.Ytjkfghekdcalhaa
open Go.Ot Go.ChangeShapes Go.WideShapes Go.ChangeAt Go.RowKit
open R14 (Twos)
open I8 (In rowI)
set_option linter.unusedSimpArgs false
set_option linter.unusedVariables false
set_option maxRecDepth 100000
theorem rd_one {P : Program} {H : Heap} {n : Nat} {t e : TypeId} (ht : P.underlying t = some (.slice e)) {cs : List Value} (h : Rd P H (n + 1) t cs) : ∃ x, cs = [x] := by
  simp only [Rd, ht] at h
  obtain ⟨y, hy, _⟩ := h
  exact ⟨y, hy⟩
theorem kc3 : Try.prog.cellsOf 3 = 1 := by kernel_rfl
theorem kc2 : Try.prog.cellsOf 2 = 1 := by kernel_rfl
theorem kc4 : Try.prog.cellsOf 4 = 1 := by kernel_rfl
theorem rd_cell {H : Heap} {m : Nat} (ds : List Value) (h : Rd Try.prog H (m + 2) 111 ds) : ∃ a : Int × Int, ds = [iv a.1, iv a.2] := by
  have hl : ds.length = 2 := (Go.Ot.rd_len Try.underlying111 h).trans (by kernel_rfl)
  match ds, hl with
  | [w0, w1], _ =>
    have g0 := rd_field Try.underlying111 h 0 rfl kc3
    have g1 := rd_field Try.underlying111 h 1 rfl kc2
    obtain ⟨a0, q0, _⟩ := rd_int Try.underlying3 g0
    obtain ⟨a1, q1, _⟩ := rd_int Try.underlying2 g1
    simp at q0 q1
    subst q0 q1
    exact ⟨(a0, a1), rfl⟩
theorem rd_red {H : Heap} {m : Nat} (ds : List Value) (h : Rd Try.prog H (m + 2) 87 ds) : ∃ a : Int × Int, ds = [iv a.1, iv a.2] := by
  have c85 : Try.prog.cellsOf 85 = 1 := by kernel_rfl
  have hl : ds.length = 2 := (Go.Ot.rd_len Try.underlying87 h).trans (by kernel_rfl)
  match ds, hl with
  | [w0, w1], _ =>
    have g0 := rd_field Try.underlying87 h 0 rfl c85
    have g1 := rd_field Try.underlying87 h 1 rfl kc2
    obtain ⟨a0, q0, _⟩ := rd_int Try.underlying85 g0
    obtain ⟨a1, q1, _⟩ := rd_int Try.underlying2 g1
    simp at q0 q1
    subst q0 q1
    exact ⟨(a0, a1), rfl⟩
theorem twos_of {H : Heap} {s e : TypeId} {m : Nat} (hs : Try.prog.underlying s = some (.slice e)) (hc : Try.prog.cellsOf e = 2) (hel : ∀ ds, Rd Try.prog H m e ds → ∃ a : Int × Int, ds = [iv a.1, iv a.2]) {x : Value} (h : Rd Try.prog H (m + 1) s [x]) : ∃ l : List (Int × Int), Twos H x l := by
  rcases rd_slice hs h hc with rfl | ⟨b, off, k, c, rfl, _, h⟩
  · exact ⟨[], .inl ⟨rfl, rfl⟩⟩
  · obtain ⟨l, hl, h⟩ := rd_all (Q := fun (a : Int × Int) ds => ds = [iv a.1, iv a.2]) hel h
    refine ⟨l, .inr ⟨b, off, c, by rw [hl], fun i hi => ?_⟩⟩
    obtain ⟨_, ds, _, h3, h4⟩ := h i hi
    subst h4
    exact ⟨h3 0 (by simp), h3 1 (by simp)⟩
theorem rd_in {H : Heap} {m : Nat} (ds : List Value) (h : Rd Try.prog H (m + 2) 55 ds) : ∃ a : In, ds = rowI a ∧ I8.okI a.kind := by
  have hl : ds.length = 6 := (Go.Ot.rd_len Try.underlying55 h).trans (by kernel_rfl)
  have c52 : Try.prog.cellsOf 52 = 1 := by kernel_rfl
  have c53 : Try.prog.cellsOf 53 = 1 := by kernel_rfl
  match ds, hl with
  | [w0, w1, w2, w3, w4, w5], _ =>
    have g0 := rd_field Try.underlying55 h 0 rfl c52
    have g1 := rd_field Try.underlying55 h 1 rfl c53
    have g2 := rd_field Try.underlying55 h 2 rfl kc3
    have g3 := rd_field Try.underlying55 h 3 rfl kc3
    have g4 := rd_field Try.underlying55 h 4 rfl kc3
    have g5 := rd_field Try.underlying55 h 5 rfl kc2
    obtain ⟨a0, q0, k0⟩ := rd_int Try.underlying52 g0
    obtain ⟨a1, q1, _⟩ := rd_int Try.underlying53 g1
    obtain ⟨a2, q2, _⟩ := rd_int Try.underlying3 g2
    obtain ⟨a3, q3, _⟩ := rd_int Try.underlying3 g3
    obtain ⟨a4, q4, _⟩ := rd_int Try.underlying3 g4
    obtain ⟨a5, q5, _⟩ := rd_int Try.underlying2 g5
    simp at q0 q1 q2 q3 q4 q5
    subst q0 q1 q2 q3 q4 q5
    exact ⟨⟨a0, a1, a2, a3, a4, a5⟩, rfl, bounds_i64 k0⟩
theorem rd_code {H : Heap} {m : Nat} {x : Value} (h : Rd Try.prog H (m + 3) 50 [x]) : ∃ l : List In, Rws H 6 x (l.map rowI) ∧ ∀ a ∈ l, I8.okI a.kind := by
  rcases rd_slice Try.underlying50 h (show Try.prog.cellsOf 55 = 6 by kernel_rfl) with rfl | ⟨b, off, k, c, rfl, _, h⟩
  · exact ⟨[], .inl ⟨rfl, rfl⟩, by simp⟩
  · obtain ⟨l, hl, h⟩ := rd_all (Q := fun (a : In) ds => ds = rowI a ∧ I8.okI a.kind) (fun ds h => rd_in ds h) h
    refine ⟨l, .inr ⟨b, off, c, by rw [List.length_map, hl], fun i hi => ?_⟩, fun a ha => ?_⟩
    · have hi' : i < l.length := by simpa using hi
      obtain ⟨_, ds, _, h3, h4, _⟩ := h i hi'
      subst h4
      simp only [List.getElem_map]
      exact ⟨rfl, fun j hj => h3 j hj⟩
    · obtain ⟨i, hi, rfl⟩ := List.mem_iff_getElem.mp ha
      obtain ⟨_, ds, _, _, _, h5⟩ := h i hi
      exact h5
theorem rd_codes {H : Heap} {m : Nat} {x : Value} (h : Rd Try.prog H (m + 4) 27 [x]) : ∃ l : List (List In), Cds H x l ∧ ∀ c ∈ l, ∀ a ∈ c, I8.okI a.kind := by
  have c50 : Try.prog.cellsOf 50 = 1 := by kernel_rfl
  rcases rd_slice Try.underlying27 h c50 with rfl | ⟨b, off, k, c, rfl, _, h⟩
  · exact ⟨[], .inl ⟨rfl, rfl⟩, by simp⟩
  · have hel : ∀ ds, Rd Try.prog H (m + 3) 50 ds → ∃ l : List In, ∃ y, ds = [y] ∧ Rws H 6 y (l.map rowI) ∧ ∀ a ∈ l, I8.okI a.kind := by
      intro ds hd
      obtain ⟨y, rfl⟩ := rd_one Try.underlying50 hd
      obtain ⟨l, h1, h2⟩ := rd_code hd
      exact ⟨l, y, rfl, h1, h2⟩
    obtain ⟨l, hl, h⟩ := rd_all (Q := fun (l : List In) ds => ∃ y, ds = [y] ∧ Rws H 6 y (l.map rowI) ∧ ∀ a ∈ l, I8.okI a.kind) hel h
    refine ⟨l, .inr ⟨b, off, c, by rw [hl], fun i hi => ?_⟩, fun cl hc => ?_⟩
    · obtain ⟨_, ds, _, h3, y, h4, h5, _⟩ := h i hi
      subst h4
      refine ⟨y, ?_, h5⟩
      have := h3 0 (by simp)
      simpa using this
    · obtain ⟨i, hi, rfl⟩ := List.mem_iff_getElem.mp hc
      obtain ⟨_, ds, _, _, y, _, _, h6⟩ := h i hi
      exact h6
theorem rd_shape {H : Heap} {m : Nat} (ds : List Value) (h : Rd Try.prog H (m + 2) 26 ds) : ∃ S : Shp, ds = shpC S ∧ ShpOk S := by
  have hl : ds.length = 6 := (Go.Ot.rd_len Try.underlying26 h).trans (by kernel_rfl)
  have c24 : Try.prog.cellsOf 24 = 1 := by kernel_rfl
  match ds, hl with
  | [w0, w1, w2, w3, w4, w5], _ =>
    have g0 := rd_field Try.underlying26 h 0 rfl c24
    have g1 := rd_field Try.underlying26 h 1 rfl kc2
    have g2 := rd_field Try.underlying26 h 2 rfl kc2
    have g3 := rd_field Try.underlying26 h 3 rfl kc2
    have g4 := rd_field Try.underlying26 h 4 rfl kc3
    have g5 := rd_field Try.underlying26 h 5 rfl kc3
    obtain ⟨a0, q0, k0⟩ := rd_int Try.underlying24 g0
    obtain ⟨a1, q1, k1⟩ := rd_int Try.underlying2 g1
    obtain ⟨a2, q2, k2⟩ := rd_int Try.underlying2 g2
    obtain ⟨a3, q3, k3⟩ := rd_int Try.underlying2 g3
    obtain ⟨a4, q4, k4⟩ := rd_int Try.underlying3 g4
    obtain ⟨a5, q5, k5⟩ := rd_int Try.underlying3 g5
    simp at q0 q1 q2 q3 q4 q5
    subst q0 q1 q2 q3 q4 q5
    exact ⟨⟨a0, a1, a2, a3, a4, a5⟩, rfl, bounds_i64 k1, bounds_i64 k2, bounds_i64 k3, bounds_i64 k4, bounds_i64 k5⟩
theorem rd_job {H : Heap} {m : Nat} (ds : List Value) (h : Rd Try.prog H (m + 5) 29 ds) : ∃ J : Jb, ds = jobC J ∧ Jb0 H J := by
  have hl : ds.length = 11 := (Go.Ot.rd_len Try.underlying29 h).trans (by kernel_rfl)
  have c22 : Try.prog.cellsOf 22 = 1 := by kernel_rfl
  have c23 : Try.prog.cellsOf 23 = 1 := by kernel_rfl
  have c26 : Try.prog.cellsOf 26 = 6 := by kernel_rfl
  have c27 : Try.prog.cellsOf 27 = 1 := by kernel_rfl
  match ds, hl with
  | [w0, w1, w2, w3, w4, w5, w6, w7, w8, w9, w10], _ =>
    have g0 := rd_field Try.underlying29 h 0 rfl kc3
    have g1 := rd_field Try.underlying29 h 1 rfl c22
    have g2 := rd_field Try.underlying29 h 2 rfl c23
    have g3 := rd_field Try.underlying29 h 3 rfl kc3
    have g4 := rd_field Try.underlying29 h 4 rfl c26
    have g5 := rd_field Try.underlying29 h 5 rfl c27
    obtain ⟨a0, q0, _⟩ := rd_int Try.underlying3 g0
    obtain ⟨lc, h1⟩ := twos_of (m := m + 3) Try.underlying22 (show Try.prog.cellsOf 111 = 2 by kernel_rfl) (fun ds h => rd_cell (m := m + 1) ds h) g1
    obtain ⟨lr, h2⟩ := twos_of (m := m + 3) Try.underlying23 (show Try.prog.cellsOf 87 = 2 by kernel_rfl) (fun ds h => rd_red (m := m + 1) ds h) g2
    obtain ⟨a3, q3, _⟩ := rd_int Try.underlying3 g3
    obtain ⟨S, q4, hS⟩ := rd_shape (m := m + 2) _ g4
    obtain ⟨lk, h5, hk⟩ := rd_codes (m := m) g5
    simp at q0 q3 q4
    obtain ⟨r0, r1, r2, r3, r4, r5⟩ := q4
    subst q0 q3 r0 r1 r2 r3 r4 r5
    exact ⟨⟨a0, a3, S, lc, lr, lk, w1, w2, w10⟩, rfl, h1, h2, h5, hS, hk⟩
theorem rd_ev {H : Heap} {m : Nat} (ds : List Value) (h : Rd Try.prog H (m + 2) 58 ds) : ∃ a : Ev, ds = evC a := by
  have hl : ds.length = 6 := (Go.Ot.rd_len Try.underlying58 h).trans (by kernel_rfl)
  have c56 : Try.prog.cellsOf 56 = 1 := by kernel_rfl
  match ds, hl with
  | [w0, w1, w2, w3, w4, w5], _ =>
    have g0 := rd_field Try.underlying58 h 0 rfl c56
    have g1 := rd_field Try.underlying58 h 1 rfl kc3
    have g2 := rd_field Try.underlying58 h 2 rfl kc3
    have g3 := rd_field Try.underlying58 h 3 rfl kc3
    have g4 := rd_field Try.underlying58 h 4 rfl kc2
    have g5 := rd_field Try.underlying58 h 5 rfl kc3
    obtain ⟨a0, q0, _⟩ := rd_int Try.underlying56 g0
    obtain ⟨a1, q1, _⟩ := rd_int Try.underlying3 g1
    obtain ⟨a2, q2, _⟩ := rd_int Try.underlying3 g2
    obtain ⟨a3, q3, _⟩ := rd_int Try.underlying3 g3
    obtain ⟨a4, q4, _⟩ := rd_int Try.underlying2 g4
    obtain ⟨a5, q5, _⟩ := rd_int Try.underlying3 g5
    simp at q0 q1 q2 q3 q4 q5
    subst q0 q1 q2 q3 q4 q5
    exact ⟨⟨a0, a1, a2, a3, a4, a5⟩, rfl⟩
theorem rd_evs {H : Heap} {x0 : Value} (h0 : Rd Try.prog H 4 30 [x0]) : ∃ l : List Ev, Rws H 6 x0 (l.map evC) := by
  rcases rd_slice Try.underlying30 h0 (show Try.prog.cellsOf 58 = 6 by kernel_rfl) with rfl | ⟨b, off, k, c, rfl, _, h⟩
  · exact ⟨[], .inl ⟨rfl, rfl⟩⟩
  · obtain ⟨l, hl, h⟩ := rd_all (Q := fun (a : Ev) ds => ds = evC a) (fun ds h => rd_ev (m := 1) ds h) h
    refine ⟨l, .inr ⟨b, off, c, by rw [List.length_map, hl], fun i hi => ?_⟩⟩
    have hi' : i < l.length := by simpa using hi
    obtain ⟨_, ds, _, h3, h4⟩ := h i hi'
    subst h4
    simp only [List.getElem_map]
    exact ⟨rfl, fun j hj => h3 j hj⟩
theorem cuts_U {H : Heap} (hw : H.WF) {cs : List Value} (h0 : Rd Try.prog H 7 29 cs) {x1 : Value} (h1 : Rd Try.prog H 4 30 [x1]) {many : Int} (hm : -9223372036854775808 ≤ many ∧ many ≤ 9223372036854775807) : ∃ v H', T Try.prog 3 [.agg cs.toArray, x1, iv many] H v H' ∧ v = .bool true := by
  obtain ⟨J, rfl, hJ⟩ := rd_job (m := 2) cs h0
  obtain ⟨l, hl⟩ := rd_evs h1
  exact ⟨_, _, cuts_T hw hJ hl many hm, rfl⟩
end Go.Proofs.Ytjkfghekdcalhaa
