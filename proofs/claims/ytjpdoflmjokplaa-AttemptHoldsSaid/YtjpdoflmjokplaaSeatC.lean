/-
  Chapter 22: a read more; a write; whether a memory is held; a new log.
-/
import Derived.Test.YtjpdoflmjokplaaSeatB
namespace Go.Proofs.Ytjpdoflmjokplaa
open Go.Ot
set_option linter.unusedSimpArgs false
set_option linter.unusedVariables false
def noteC (rs : List R3) (r : R3) (mr : Int) : Int := if 0 ≤ rIdx r.1 rs then 61 else if (rs.length : Int) = mr then 200 else 0
def noteL (rs : List R3) (r : R3) (mr : Int) : List R3 := if 0 ≤ rIdx r.1 rs then rs else if (rs.length : Int) = mr then rs else rs ++ [r]
theorem c3_append (a b : List R3) : c3 (a ++ b) = c3 a ++ c3 b := by simp [c3]
theorem c2_append (a b : List (Int × Int)) : c2 (a ++ b) = c2 a ++ c2 b := by simp [c2]
/-- Behind a call of a log's. -/
structure Lg (H H' : Heap) (p : Nat) (xr xw : Value) (rs : List R3) (ws : List (Int × Int)) (mr mw mo : Int) (xo hq : Value) (xr' xw' : Value) : Prop where
  lg : LG H' p rs ws mr mw xr' xw' xo hq mo
  wf : H'.WF
  base : H'.base = H.base
  next : H.next ≤ H'.next
  same : ∀ b, b < H.next → b ≠ p → blkOf xr ≠ some b → blkOf xw ≠ some b → H'.blk b = H.blk b
  newR : ∀ b, blkOf xr' = some b → blkOf xr = some b ∨ H.next ≤ b
  newW : ∀ b, blkOf xw' = some b → blkOf xw = some b ∨ H.next ≤ b
theorem note_T {H : Heap} (hw : H.WF) {p : Nat} {rs : List R3} {ws : List (Int × Int)} {mr mw mo : Int} {xr xw xo hq : Value} (h : LG H p rs ws mr mw xr xw xo hq mo) (r : R3) (hl : rs.length ≤ 1000) :
    ∃ v H', T Try.prog 7 [ptr p, .agg (row3 r).toArray] H v H' ∧ v = iv (noteC rs r mr) ∧ ∃ xr', Lg H H' p xr xw (noteL rs r mr) ws mr mw mo xo hq xr' xw := by
  refine T_by hm light7 ?_
  have hnB := hw.next_ge
  have hpn := hw.lt h.bp
  obtain ⟨H1, hH1⟩ : ∃ H1, H1 = H.new 29 3 (row3 r) := ⟨_, rfl⟩
  have w1 : H1.WF := by rw [hH1]; exact WF_new hw _ _ _
  have n1 : H1.next = H.next + 1 := by rw [hH1]; rfl
  have b1 : H1.base = H.base := by rw [hH1]; rfl
  have k1 : ∀ b, b < H.next → H1.blk b = H.blk b := fun b hb => by rw [hH1]; simp [show b ≠ H.next by omega]
  have hr1 : H1.blk H.next = some ⟨29, 3, row3 r⟩ := by rw [hH1]; simp
  have hB1 : ¬ H.next < H1.B := by rw [B_eq b1]; exact hnB
  have h1 := h.keep hw b1 k1
  have lr1 : H1.load ⟨H.next, 0, none⟩ = some (iv r.1) := by rw [load_at hB1 hr1]; rfl
  obtain ⟨v2, H2, T2, rfl, s2⟩ := read_T w1 h1 r.1 hl
  have w2 := T2.grow.wf w1
  have b2 := T2.1
  have n2 := T2.grow.next
  have k2 : ∀ b, b < H1.next → H2.blk b = H1.blk b := fun b hb => s2 b hb (by simp)
  have st3 := new_storeA w2 29 3 [.int .i64 0, .int .i64 0, .int .i64 0] (row3 (rowAt rs (rIdx r.1 rs))) rfl rfl (by decide)
  obtain ⟨H3, hH3⟩ : ∃ H3, H3 = H2.new 29 3 (row3 (rowAt rs (rIdx r.1 rs))) := ⟨_, rfl⟩
  rw [← hH3] at st3
  have w3 : H3.WF := by rw [hH3]; exact WF_new w2 _ _ _
  have n3 : H3.next = H2.next + 1 := by rw [hH3]; rfl
  have b3 : H3.base = H.base := by rw [hH3]; exact b2.trans b1
  have k3 : ∀ b, b < H.next + 1 → H3.blk b = H1.blk b := fun b hb => by rw [hH3]; simp [show b ≠ H2.next by omega]; exact k2 b (by omega)
  have k3' : ∀ b, b < H.next → H3.blk b = H.blk b := fun b hb => (k3 b (by omega)).trans (k1 b hb)
  have h3 := h.keep hw b3 k3'
  have l3 := fun off => load_at (off := off) h3.hp h3.bp
  have hr3 : H3.blk H.next = some ⟨29, 3, row3 r⟩ := by rw [k3 _ (by omega)]; exact hr1
  have hB3 : ¬ H.next < H3.B := by rw [B_eq b3]; exact hnB
  have lr3 : H3.loadN ⟨H.next, 0, none⟩ 0 3 = some (row3 r) := by
    rw [loadN_at hB3 hr3 (by simp [row3])]
    simp [row3]
  obtain ⟨i, hi⟩ : ∃ i, i = rIdx r.1 rs := ⟨_, rfl⟩
  have same3 : Lg H H3 p xr xw rs ws mr mw mo xo hq xr xw := ⟨h3, w3, b3, by omega, fun b hb _ _ _ => k3' b hb, fun b hb => .inl hb, fun b hb => .inl hb⟩
  obtain ⟨cc, hcc⟩ : ∃ cc, cc = noteC rs r mr := ⟨_, rfl⟩
  obtain ⟨ll, hll⟩ : ∃ ll, ll = noteL rs r mr := ⟨_, rfl⟩
  rw [← hcc, ← hll]
  unfold noteC at hcc
  unfold noteL at hll
  rw [← hi] at T2 st3 hcc hll
  obtain ⟨q, hq'⟩ : ∃ q, q = row3 (rowAt rs i) := ⟨_, rfl⟩
  rw [← hq'] at T2 st3
  simp [L7]
  refine ⟨rfl, ?_⟩
  rw [← hH1]
  simp [lr1]
  refine goT_of T2 ?_
  simp [st3]
  by_cases h0 : 0 ≤ i
  · rw [if_pos h0] at hcc hll
    subst hcc hll
    simp [h0]
    exact ⟨xr, same3⟩
  · have hgl : xr = xr := rfl
    obtain ⟨ax, hax⟩ := h.ro.len
    have l3' := l3
    rw [hax] at l3'
    by_cases hm : (rs.length : Int) = mr
    · have hm' : ((rs.length : Int) == mr) = true := by simp [hm]
      rw [if_neg h0, if_pos hm] at hcc hll
      subst hcc hll
      simp [h0, l3', hm]
      exact ⟨xr, same3⟩
    · have hm' : ((rs.length : Int) == mr) = false := by simp [hm]
      rw [if_neg h0, if_neg hm] at hcc hll
      subst hcc hll
      have z3 : zerosA [.int .i64 0, .int .i64 0, .int .i64 0] 3 = [iv 0, iv 0, iv 0] := rfl
      obtain ⟨a4, H4, H5, ap, st, P⟩ := push_row w3 h3.hp h3.bp h3.ro h3.pr (row3 r) rfl 0 (by simp) 24 0 (by omega)
      simp only [List.set_cons_zero] at P
      have lxn := load_newN w3 (show H3.load ⟨p, 0, none⟩ = some xr by rw [l3]; rfl)
      have l30 : H3.load ⟨p, 0, none⟩ = some xr := by rw [l3]; rfl
      have l34 : H3.load ⟨p, 4, none⟩ = some (iv mr) := by rw [l3]; rfl
      rw [hax] at lxn l30 ap
      simp [h0, l30, l34, hm', hm, lr3, z3]
      refine ⟨rfl, lxn _ _ _, ?_⟩
      rw [ap]
      simp [st]
      have hwr : ∀ b, blkOf (.slice (some a4) (rs.length + 1) 0) = some b → H3.next ≤ b ∧ b < H5.next := P.new
      refine ⟨.slice (some a4) (rs.length + 1) 0, ⟨by rw [B_eq P.base]; exact h3.hp, P.bp, ?_, ?_, ?_, h3.pw, ?_⟩, P.wf, P.base.trans b3, by have := P.next; omega, ?_, ?_, fun b hb => .inl hb⟩
      · rw [List.length_append, c3_append]
        have := P.own
        simpa [c3] using this
      · refine h3.wo.keep (B_eq P.base) (fun b hb => P.same b (h3.wo.lt w3 hb) (fun e => h3.pw (by rw [← e]; exact hb)) (fun e => h3.rw b e hb))
      · intro e
        have := (hwr p e).1
        omega
      · intro b hb e
        have := (hwr b hb).1
        have := h3.wo.lt w3 e
        omega
      · intro b hb hp' hx hx2
        rw [P.same b (by omega) hp' hx]
        exact k3' b hb
      · intro b hb
        have := (hwr b hb).1
        exact .inr (by omega)
theorem set2 : ∀ (l : List (Int × Int)) (i : Nat) (h : i < l.length) (v : Int), (c2 l).set (i * 2 + 1) (iv v) = c2 (l.set i (l[i].1, v))
  | a :: l, 0, h, v => by simp [c2, row2]
  | a :: l, i + 1, h, v => by
    have ih := set2 l i (by simpa using h) v
    have e : c2 (a :: l) = row2 a ++ c2 l := by simp [c2]
    rw [e, List.set_append_right _ _ (by simp [row2]; omega)]
    have e2 : (i + 1) * 2 + 1 - (row2 a).length = i * 2 + 1 := by simp [row2]; omega
    rw [e2, ih]
    simp [c2]
def writeC (ws : List (Int × Int)) (a : Int) (mw : Int) : Int := if 0 ≤ wIdx a ws then 0 else if (ws.length : Int) = mw then 200 else 0
def writeL (ws : List (Int × Int)) (a v : Int) (mw : Int) : List (Int × Int) := if 0 ≤ wIdx a ws then ws.set (wIdx a ws).toNat ((ws.getD (wIdx a ws).toNat (0, 0)).1, v) else if (ws.length : Int) = mw then ws else ws ++ [(a, v)]
theorem write_T {H : Heap} (hw : H.WF) {p : Nat} {rs : List R3} {ws : List (Int × Int)} {mr mw mo : Int} {xr xw xo hq : Value} (h : LG H p rs ws mr mw xr xw xo hq mo) (a v : Int) (hl : ws.length ≤ 1000) :
    ∃ y H', T Try.prog 25 [ptr p, iv a, iv v] H y H' ∧ y = iv (writeC ws a mw) ∧ ∃ xw', Lg H H' p xr xw rs (writeL ws a v mw) mr mw mo xo hq xr xw' := by
  refine T_by hm light25 ?_
  have hnB := hw.next_ge
  have hpn := hw.lt h.bp
  obtain ⟨H1, hH1⟩ : ∃ H1, H1 = H.new 3 1 [iv a] := ⟨_, rfl⟩
  have w1 : H1.WF := by rw [hH1]; exact WF_new hw _ _ _
  have n1 : H1.next = H.next + 1 := by rw [hH1]; rfl
  have b1 : H1.base = H.base := by rw [hH1]; rfl
  have k1 : ∀ b, b < H.next → H1.blk b = H.blk b := fun b hb => by rw [hH1]; simp [show b ≠ H.next by omega]
  have hc1 : H1.blk H.next = some ⟨3, 1, [iv a]⟩ := by rw [hH1]; simp
  have hB1 : ¬ H.next < H1.B := by rw [B_eq b1]; exact hnB
  have h1 := h.keep hw b1 k1
  have l1 : H1.load ⟨p, 1, none⟩ = some xw := by rw [load_at h1.hp h1.bp]; rfl
  obtain ⟨v3, H3, T3, rfl, s3⟩ := find2_T w1 h1.rowsW (isAt a) (says_at2 w1 hB1 hc1 ws) (by simp; omega)
  have w3 := T3.grow.wf w1
  have b3 := T3.1.trans b1
  have n3 := T3.grow.next
  have k3 : ∀ b, b < H1.next → H3.blk b = H1.blk b := fun b hb => s3 b hb (by simp)
  have k3' : ∀ b, b < H.next → H3.blk b = H.blk b := fun b hb => (k3 b (by omega)).trans (k1 b hb)
  have h3 := h.keep hw b3 k3'
  have l31 : H3.load ⟨p, 1, none⟩ = some xw := by rw [load_at h3.hp h3.bp]; rfl
  have l35 : H3.load ⟨p, 5, none⟩ = some (iv mw) := by rw [load_at h3.hp h3.bp]; rfl
  have lc3 : H3.load ⟨H.next, 0, none⟩ = some (iv a) := by
    rw [load_at (by rw [B_eq b3]; exact hnB) (show H3.blk H.next = some ⟨3, 1, [iv a]⟩ by rw [k3 _ (by omega)]; exact hc1)]; rfl
  obtain ⟨ax, hax⟩ := h.wo.len
  have hg := fIdx_ge (isAt a) (ws.map row2)
  rw [List.length_map] at hg
  obtain ⟨i, hi⟩ : ∃ i, i = wIdx a ws := ⟨_, rfl⟩
  have hi' : fIdx (isAt a) (ws.map row2) = i := hi.symm
  rw [hi'] at hg T3
  have same3 : Lg H H3 p xr xw rs ws mr mw mo xo hq xr xw := ⟨h3, w3, b3, by omega, fun b hb _ _ _ => k3' b hb, fun b hb => .inl hb, fun b hb => .inl hb⟩
  obtain ⟨cc, hcc⟩ : ∃ cc, cc = writeC ws a mw := ⟨_, rfl⟩
  obtain ⟨ll, hll⟩ : ∃ ll, ll = writeL ws a v mw := ⟨_, rfl⟩
  rw [← hcc, ← hll]
  unfold writeC at hcc
  unfold writeL at hll
  rw [← hi] at hcc hll
  simp [L25]
  rw [← hH1]
  simp [l1, isR0]
  refine goT_of T3 ?_
  by_cases h0 : 0 ≤ i
  · obtain ⟨j, rfl⟩ : ∃ j : Nat, i = j := ⟨i.toNat, by omega⟩
    have hj : j < ws.length := by omega
    rcases h3.wo.2 with ⟨_, h00⟩ | ⟨bw, rest, hbw, hBw, hkw⟩
    · omega
    have hst : H3.store ⟨bw, j * 2 + 1, none⟩ (iv v) = some (H3.put bw (c2 (ws.set j (ws[j].1, v)) ++ rest)) := by
      have hcl : (c2 ws).length = ws.length * 2 := h3.wo.1
      rw [store_own hBw hkw, if_pos (by rw [List.length_append]; omega), List.set_append_left _ _ (by omega), set2 ws j hj v]
    obtain ⟨H4, hH4⟩ : ∃ H4, H4 = H3.put bw (c2 (ws.set j (ws[j].1, v)) ++ rest) := ⟨_, rfl⟩
    rw [← hH4] at hst
    have pb : p ≠ bw := fun e => h3.pw (by rw [hbw, e]; rfl)
    have hxw : blkOf xw = some bw := by rw [hbw]; rfl
    have fin : Lg H H4 p xr xw rs (ws.set j (ws[j].1, v)) mr mw mo xo hq xr xw := by
      refine ⟨⟨by rw [hH4]; simpa using h3.hp, by rw [hH4]; simp [pb, h3.bp], ?_, ?_, h3.pr, h3.pw, h3.rw⟩, by rw [hH4]; exact WF_put w3 _ _, by rw [hH4]; exact b3, by rw [hH4]; simp; omega, ?_, fun b hb => .inl hb, fun b hb => .inl hb⟩
      · refine h3.ro.keep (by rw [hH4]; rfl) (fun b hb => ?_)
        have : b ≠ bw := fun e => h3.rw b hb (by rw [hxw, e])
        rw [hH4]; simp [this]
      · refine ⟨by rw [← set2 ws j hj v, List.length_set, List.length_set]; exact h3.wo.1, .inr ⟨bw, rest, by rw [List.length_set]; exact hbw, by rw [hH4]; simpa using hBw, by rw [hH4]; simp [hkw]⟩⟩
      · intro b hb hp' hx hx2
        have : b ≠ bw := fun e => hx2 (by rw [hxw, e])
        rw [hH4]; simp [this]
        exact k3' b hb
    have e1 : ws.getD j (0, 0) = ws[j] := by simp [List.getD, hj]
    rw [if_pos h0] at hcc hll
    rw [Int.toNat_natCast, e1] at hll
    subst hcc hll
    rw [hbw] at l31
    simp [l31, hj, hst]
    exact ⟨xw, fin⟩
  · by_cases hm : (ws.length : Int) = mw
    · have hm' : ((ws.length : Int) == mw) = true := by simp [hm]
      rw [if_neg h0, if_pos hm] at hcc hll
      subst hcc hll
      have l31' := l31
      rw [hax] at l31'
      simp [h0, l31', l35, hm]
      exact ⟨xw, same3⟩
    · have hm' : ((ws.length : Int) == mw) = false := by simp [hm]
      rw [if_neg h0, if_neg hm] at hcc hll
      subst hcc hll
      have z2 : zerosA [.int .i64 0, .int .i64 0] 2 = [iv 0, iv 0] := rfl
      obtain ⟨a4, H4, H5, ap, st, P⟩ := push_row w3 h3.hp h3.bp h3.wo h3.pw (row2 (a, v)) rfl 1 (by simp) 16 0 (by omega)
      simp only [List.set_cons_zero, List.set_cons_succ] at P
      have l31' := l31
      have lxn := load_newN w3 l31
      rw [hax] at lxn l31' ap
      have ap' : sAppend (H3.new 92 2 [iv a, iv v]) 92 2 16 (.slice ax ws.length 0) (.slice (some ⟨H3.next, 0, none⟩) 1 0) = _ := ap
      simp [h0, l31', l35, hm', hm, lc3, z2, lxn, ap', st]
      have hwr : ∀ b, blkOf (.slice (some a4) (ws.length + 1) 0) = some b → H3.next ≤ b ∧ b < H5.next := P.new
      refine ⟨.slice (some a4) (ws.length + 1) 0, ⟨by rw [B_eq P.base]; exact h3.hp, P.bp, ?_, ?_, h3.pr, ?_, ?_⟩, P.wf, P.base.trans b3, by have := P.next; omega, ?_, fun b hb => .inl hb, ?_⟩
      · refine h3.ro.keep (B_eq P.base) (fun b hb => P.same b (h3.ro.lt w3 hb) (fun e => h3.pr (by rw [← e]; exact hb)) (h3.rw b hb))
      · rw [List.length_append, c2_append]
        have := P.own
        simpa [c2] using this
      · intro e
        have := (hwr p e).1
        omega
      · intro b hb e
        have := (hwr b e).1
        have := h3.ro.lt w3 hb
        omega
      · intro b hb hp' hx hx2
        rw [P.same b (by omega) hp' hx2]
        exact k3' b hb
      · intro b hb
        have := (hwr b hb).1
        exact .inr (by omega)
end Go.Proofs.Ytjpdoflmjokplaa
