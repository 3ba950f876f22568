/-
  Chapter 22: a log: what its functions do. Chapter 22: a read more; a write; whether a memory is held; a new log. Chapter 22: whether a memory is held; a new log; the example.
-/
import Derived.Test.YtjpdoflmjokplaaSeatA
namespace Go.Proofs.Ytjpdoflmjokplaa
open Go.Ot
set_option linter.unusedSimpArgs false
set_option linter.unusedVariables false
abbrev R3 := Int × Int × Int
def row3 (r : R3) : List Value := [iv r.1, iv r.2.1, iv r.2.2]
def row2 (r : Int × Int) : List Value := [iv r.1, iv r.2]
def c3 (l : List R3) : List Value := (l.map row3).flatten
def c2 (l : List (Int × Int)) : List Value := (l.map row2).flatten
/-- At p stands a log of these reads and writes, with so much room. -/
structure LG (H : Heap) (p : Nat) (rs : List R3) (ws : List (Int × Int)) (mr mw : Int) (xr xw xo hq : Value) (mo : Int) : Prop where
  hp : ¬ p < H.B
  bp : H.blk p = some ⟨71, 7, [xr, xw, xo, hq, iv mr, iv mw, iv mo]⟩
  ro : Own H 29 3 rs.length (c3 rs) xr
  wo : Own H 92 2 ws.length (c2 ws) xw
  pr : blkOf xr ≠ some p
  pw : blkOf xw ≠ some p
  rw : ∀ b, blkOf xr = some b → blkOf xw ≠ some b
theorem LG.keep {H H' : Heap} (hw : H.WF) {p : Nat} {rs : List R3} {ws : List (Int × Int)} {mr mw mo : Int} {xr xw xo hq : Value} (h : LG H p rs ws mr mw xr xw xo hq mo) (hb : H'.base = H.base) (hk : ∀ b, b < H.next → H'.blk b = H.blk b) : LG H' p rs ws mr mw xr xw xo hq mo :=
  ⟨by rw [B_eq hb]; exact h.hp, by rw [hk p (hw.lt h.bp)]; exact h.bp, h.ro.keep (B_eq hb) (fun b e => hk b (h.ro.lt hw e)), h.wo.keep (B_eq hb) (fun b e => hk b (h.wo.lt hw e)), h.pr, h.pw, h.rw⟩
theorem LG.rows {H : Heap} {p : Nat} {rs : List R3} {ws : List (Int × Int)} {mr mw mo : Int} {xr xw xo hq : Value} (h : LG H p rs ws mr mw xr xw xo hq mo) : Rws H 3 xr (rs.map row3) := by
  refine Own.rws (ety := 29) (by intro r hr; obtain ⟨q, _, rfl⟩ := List.mem_map.1 hr; rfl) ?_
  simpa [c3] using h.ro
theorem LG.rowsW {H : Heap} {p : Nat} {rs : List R3} {ws : List (Int × Int)} {mr mw mo : Int} {xr xw xo hq : Value} (h : LG H p rs ws mr mw xr xw xo hq mo) : Rws H 2 xw (ws.map row2) := by
  refine Own.rws (ety := 92) (by intro r hr; obtain ⟨q, _, rfl⟩ := List.mem_map.1 hr; rfl) ?_
  simpa [c2] using h.wo
def isAt (a : Int) : List Value → Bool
  | .int _ n :: _ => n == a
  | _ => false
theorem says_at3 {H : Heap} (hw : H.WF) {c : Nat} {a : Int} (hB : ¬ c < H.B) (hc : H.blk c = some ⟨3, 1, [iv a]⟩) (l : List R3) : Says H (.func (.func 26) #[] #[ptr c]) (isAt a) (l.map row3) := by
  intro H1 w1 b1 n1 o1 r hr
  obtain ⟨q, _, rfl⟩ := List.mem_map.1 hr
  have hc1 : H1.blk c = some ⟨3, 1, [iv a]⟩ := by rw [o1 c (hw.lt hc)]; exact hc
  have hB1 : ¬ c < H1.B := by rw [B_eq b1]; exact hB
  have : ∃ v H2, T Try.prog 26 [.agg (row3 q).toArray, ptr c] H1 v H2 ∧ v = .bool (isAt a (row3 q)) ∧ Same H1 H2 [] := by
    refine T_by hm light26 ?_
    have l0 := new_load w1 29 3 (row3 q)
    have l1 : (H1.new 29 3 (row3 q)).load ⟨c, 0, none⟩ = some (iv a) := load_newN w1 (by rw [load_at hB1 hc1]; rfl) _ _ _
    simp [row3] at l0 l1
    simp [L26, row3, l0, l1, isAt]
    intro b hb _
    simp [show b ≠ H1.next by omega]
  obtain ⟨v, H2, T2, rfl, s2⟩ := this
  exact ⟨H2, ⟨26, #[], #[ptr c], rfl, ⟨Try.f26, Try.func26, by kernel_rfl, by kernel_rfl⟩, T2⟩, s2⟩
theorem says_at2 {H : Heap} (hw : H.WF) {c : Nat} {a : Int} (hB : ¬ c < H.B) (hc : H.blk c = some ⟨3, 1, [iv a]⟩) (l : List (Int × Int)) : Says H (.func (.func 49) #[] #[ptr c]) (isAt a) (l.map row2) := by
  intro H1 w1 b1 n1 o1 r hr
  obtain ⟨q, _, rfl⟩ := List.mem_map.1 hr
  have hc1 : H1.blk c = some ⟨3, 1, [iv a]⟩ := by rw [o1 c (hw.lt hc)]; exact hc
  have hB1 : ¬ c < H1.B := by rw [B_eq b1]; exact hB
  have : ∃ v H2, T Try.prog 49 [.agg (row2 q).toArray, ptr c] H1 v H2 ∧ v = .bool (isAt a (row2 q)) ∧ Same H1 H2 [] := by
    refine T_by hm light49 ?_
    have l0 := new_load w1 92 2 (row2 q)
    have l1 : (H1.new 92 2 (row2 q)).load ⟨c, 0, none⟩ = some (iv a) := load_newN w1 (by rw [load_at hB1 hc1]; rfl) _ _ _
    simp [row2] at l0 l1
    simp [L49, row2, l0, l1, isAt]
    intro b hb _
    simp [show b ≠ H1.next by omega]
  obtain ⟨v, H2, T2, rfl, s2⟩ := this
  exact ⟨H2, ⟨49, #[], #[ptr c], rfl, ⟨Try.f49, Try.func49, by kernel_rfl, by kernel_rfl⟩, T2⟩, s2⟩
def rIdx (a : Int) (rs : List R3) : Int := fIdx (isAt a) (rs.map row3)
def wIdx (a : Int) (ws : List (Int × Int)) : Int := fIdx (isAt a) (ws.map row2)
def rowAt (rs : List R3) (i : Int) : R3 := if 0 ≤ i then rs.getD i.toNat (0, 0, 0) else (0, 0, 0)
theorem read_T {H : Heap} (hw : H.WF) {p : Nat} {rs : List R3} {ws : List (Int × Int)} {mr mw mo : Int} {xr xw xo hq : Value} (h : LG H p rs ws mr mw xr xw xo hq mo) (a : Int) (hl : rs.length ≤ 1000) :
    ∃ v H', T Try.prog 10 [ptr p, iv a] H v H' ∧ v = .tuple #[.agg (row3 (rowAt rs (rIdx a rs))).toArray, .bool (decide (0 ≤ rIdx a rs))] ∧ Same H H' [] := by
  refine T_by hm light10 ?_
  have hnB := hw.next_ge
  have hpn := hw.lt h.bp
  obtain ⟨H1, hH1⟩ : ∃ H1, H1 = H.new 3 1 [iv a] := ⟨_, rfl⟩
  have w1 : H1.WF := by rw [hH1]; exact WF_new hw _ _ _
  have n1 : H1.next = H.next + 1 := by rw [hH1]; rfl
  have k1 : ∀ b, b < H.next → H1.blk b = H.blk b := fun b hb => by rw [hH1]; simp [show b ≠ H.next by omega]
  have hc1 : H1.blk H.next = some ⟨3, 1, [iv a]⟩ := by rw [hH1]; simp
  obtain ⟨H2, hH2⟩ : ∃ H2, H2 = H1.new 29 3 [iv 0, iv 0, iv 0] := ⟨_, rfl⟩
  have w2 : H2.WF := by rw [hH2]; exact WF_new w1 _ _ _
  have n2 : H2.next = H.next + 2 := by rw [hH2]; simp [n1]
  have b2 : H2.base = H.base := by rw [hH2, hH1]; rfl
  have k2 : ∀ b, b < H.next → H2.blk b = H.blk b := fun b hb => by rw [hH2]; simp [show b ≠ H1.next by omega]; exact k1 b hb
  have hc2 : H2.blk H.next = some ⟨3, 1, [iv a]⟩ := by rw [hH2]; simp [show H.next ≠ H1.next by omega, hc1]
  have ho2 : H2.blk (H.next + 1) = some ⟨29, 3, [iv 0, iv 0, iv 0]⟩ := by rw [hH2]; simp [n1]
  have hB2 : ¬ H.next < H2.B := by rw [B_eq b2]; exact hnB
  have h2 := h.keep hw b2 k2
  have l2 := fun off => load_at (off := off) h2.hp h2.bp
  obtain ⟨v3, H3, T3, rfl, s3⟩ := find3_T w2 h2.rows (isAt a) (says_at3 w2 hB2 hc2 rs) (by simp; omega)
  have w3 := T3.grow.wf w2
  have b3 := T3.1
  have n3 := T3.grow.next
  have h3 := h2.keep w2 b3 (fun b hb => s3 b hb (by simp))
  have l3 := fun off => load_at (off := off) h3.hp h3.bp
  have ho3 : H3.blk (H.next + 1) = some ⟨29, 3, [iv 0, iv 0, iv 0]⟩ := by rw [s3 _ (by omega) (by simp)]; exact ho2
  have hB3 : ¬ H.next + 1 < H3.B := by rw [B_eq b3, B_eq b2]; omega
  have st : ∀ row : List Value, row.length = 3 → sStore H3 3 (.pointer (some ⟨H.next + 1, 0, none⟩)) (.agg row.toArray) = some (H3.put (H.next + 1) row) := fun row hrow => by
    rw [sStore_agg _ _ _ _ hrow (by decide), storeN_at hB3 ho3 (by simp [hrow])]
    simp only [Nat.zero_add, List.take_zero, List.nil_append, hrow]
    simp
  have lo : ∀ row : List Value, row.length = 3 → (H3.put (H.next + 1) row).loadN ⟨H.next + 1, 0, none⟩ 0 3 = some row := fun row hrow => by
    rw [loadN_at (k := ⟨29, 3, row⟩) (by simpa using hB3) (by simp [ho3]) (by simp; omega)]
    simp only [Nat.add_zero, List.drop_zero]
    rw [List.take_of_length_le (by omega)]
  have sm : ∀ row : List Value, Same H (H3.put (H.next + 1) row) [] := fun row b hb _ => by
    simp [show b ≠ H.next + 1 by omega]
    rw [s3 b (by omega) (by simp), k2 b hb]
  have st0 := st [iv 0, iv 0, iv 0] rfl
  have lo0 := lo [iv 0, iv 0, iv 0] rfl
  have sm0 := sm [iv 0, iv 0, iv 0]
  have hg := fIdx_ge (isAt a) (rs.map row3)
  rw [List.length_map] at hg
  obtain ⟨i, hi⟩ : ∃ i, i = rIdx a rs := ⟨_, rfl⟩
  have hi' : fIdx (isAt a) (rs.map row3) = i := hi.symm
  rw [hi'] at hg T3
  rw [← hi]
  simp [L10]
  rw [← hH1, ← n1, ← hH2]
  simp [l2, isR0]
  refine goT_of T3 ?_
  rw [n1]
  by_cases hneg : i < 0
  · have e1 : rowAt rs i = (0, 0, 0) := by unfold rowAt; rw [if_neg (by omega)]
    have e2 : ¬ 0 ≤ i := by omega
    simp [hneg, st0, lo0, packV, e1, e2, row3, sm0]
  · obtain ⟨j, rfl⟩ : ∃ j : Nat, i = j := ⟨i.toNat, by omega⟩
    have hj : j < rs.length := by omega
    obtain ⟨b, off, c, hxr, hlen, ld, _⟩ := h3.rows.at (i := j) (by simpa using hj)
    simp only [List.getElem_map, List.length_map] at hxr hlen ld
    have e1 : rowAt rs j = rs[j] := by unfold rowAt; rw [if_pos (by omega)]; simp [List.getD, hj]
    have st1 := st (row3 rs[j]) rfl
    have lo1 := lo (row3 rs[j]) rfl
    have sm1 := sm (row3 rs[j])
    rw [hxr] at l3
    simp [l3, hj, ld, st1, lo1, packV, e1, sm1]
end Go.Proofs.Ytjpdoflmjokplaa
namespace Go.Proofs.Ytjpdoflmjokplaa
open Go.Ot
set_option linter.unusedSimpArgs false
set_option linter.unusedVariables false
def noteC (rs : List R3) (r : R3) (mr : Int) : Int := if 0 ≤ rIdx r.1 rs then 61 else if (rs.length : Int) = mr then 200 else 0
def noteL (rs : List R3) (r : R3) (mr : Int) : List R3 := if 0 ≤ rIdx r.1 rs then rs else if (rs.length : Int) = mr then rs else rs ++ [r]
theorem c3_append (a b : List R3) : c3 (a ++ b) = c3 a ++ c3 b := by simp [c3]
theorem c2_append (a b : List (Int × Int)) : c2 (a ++ b) = c2 a ++ c2 b := by simp [c2]
/-- Behind a call of a log's. -/
structure Lg (H H' : Heap) (p : Nat) (xr xw : Value) (rs : List R3) (ws : List (Int × Int)) (mr mw mo : Int) (xo hq : Value) (xr' xw' : Value) : Prop where
  lg : LG H' p rs ws mr mw xr' xw' xo hq mo
  wf : H'.WF
  base : H'.base = H.base
  next : H.next ≤ H'.next
  same : ∀ b, b < H.next → b ≠ p → blkOf xr ≠ some b → blkOf xw ≠ some b → H'.blk b = H.blk b
  newR : ∀ b, blkOf xr' = some b → blkOf xr = some b ∨ H.next ≤ b
  newW : ∀ b, blkOf xw' = some b → blkOf xw = some b ∨ H.next ≤ b
theorem note_T {H : Heap} (hw : H.WF) {p : Nat} {rs : List R3} {ws : List (Int × Int)} {mr mw mo : Int} {xr xw xo hq : Value} (h : LG H p rs ws mr mw xr xw xo hq mo) (r : R3) (hl : rs.length ≤ 1000) :
    ∃ v H', T Try.prog 7 [ptr p, .agg (row3 r).toArray] H v H' ∧ v = iv (noteC rs r mr) ∧ ∃ xr', Lg H H' p xr xw (noteL rs r mr) ws mr mw mo xo hq xr' xw := by
  refine T_by hm light7 ?_
  have hnB := hw.next_ge
  have hpn := hw.lt h.bp
  obtain ⟨H1, hH1⟩ : ∃ H1, H1 = H.new 29 3 (row3 r) := ⟨_, rfl⟩
  have w1 : H1.WF := by rw [hH1]; exact WF_new hw _ _ _
  have n1 : H1.next = H.next + 1 := by rw [hH1]; rfl
  have b1 : H1.base = H.base := by rw [hH1]; rfl
  have k1 : ∀ b, b < H.next → H1.blk b = H.blk b := fun b hb => by rw [hH1]; simp [show b ≠ H.next by omega]
  have hr1 : H1.blk H.next = some ⟨29, 3, row3 r⟩ := by rw [hH1]; simp
  have hB1 : ¬ H.next < H1.B := by rw [B_eq b1]; exact hnB
  have h1 := h.keep hw b1 k1
  have lr1 : H1.load ⟨H.next, 0, none⟩ = some (iv r.1) := by rw [load_at hB1 hr1]; rfl
  obtain ⟨v2, H2, T2, rfl, s2⟩ := read_T w1 h1 r.1 hl
  have w2 := T2.grow.wf w1
  have b2 := T2.1
  have n2 := T2.grow.next
  have k2 : ∀ b, b < H1.next → H2.blk b = H1.blk b := fun b hb => s2 b hb (by simp)
  have st3 := new_storeA w2 29 3 [.int .i64 0, .int .i64 0, .int .i64 0] (row3 (rowAt rs (rIdx r.1 rs))) rfl rfl (by decide)
  obtain ⟨H3, hH3⟩ : ∃ H3, H3 = H2.new 29 3 (row3 (rowAt rs (rIdx r.1 rs))) := ⟨_, rfl⟩
  rw [← hH3] at st3
  have w3 : H3.WF := by rw [hH3]; exact WF_new w2 _ _ _
  have n3 : H3.next = H2.next + 1 := by rw [hH3]; rfl
  have b3 : H3.base = H.base := by rw [hH3]; exact b2.trans b1
  have k3 : ∀ b, b < H.next + 1 → H3.blk b = H1.blk b := fun b hb => by rw [hH3]; simp [show b ≠ H2.next by omega]; exact k2 b (by omega)
  have k3' : ∀ b, b < H.next → H3.blk b = H.blk b := fun b hb => (k3 b (by omega)).trans (k1 b hb)
  have h3 := h.keep hw b3 k3'
  have l3 := fun off => load_at (off := off) h3.hp h3.bp
  have hr3 : H3.blk H.next = some ⟨29, 3, row3 r⟩ := by rw [k3 _ (by omega)]; exact hr1
  have hB3 : ¬ H.next < H3.B := by rw [B_eq b3]; exact hnB
  have lr3 : H3.loadN ⟨H.next, 0, none⟩ 0 3 = some (row3 r) := by
    rw [loadN_at hB3 hr3 (by simp [row3])]
    simp [row3]
  obtain ⟨i, hi⟩ : ∃ i, i = rIdx r.1 rs := ⟨_, rfl⟩
  have same3 : Lg H H3 p xr xw rs ws mr mw mo xo hq xr xw := ⟨h3, w3, b3, by omega, fun b hb _ _ _ => k3' b hb, fun b hb => .inl hb, fun b hb => .inl hb⟩
  obtain ⟨cc, hcc⟩ : ∃ cc, cc = noteC rs r mr := ⟨_, rfl⟩
  obtain ⟨ll, hll⟩ : ∃ ll, ll = noteL rs r mr := ⟨_, rfl⟩
  rw [← hcc, ← hll]
  unfold noteC at hcc
  unfold noteL at hll
  rw [← hi] at T2 st3 hcc hll
  obtain ⟨q, hq'⟩ : ∃ q, q = row3 (rowAt rs i) := ⟨_, rfl⟩
  rw [← hq'] at T2 st3
  simp [L7]
  refine ⟨rfl, ?_⟩
  rw [← hH1]
  simp [lr1]
  refine goT_of T2 ?_
  simp [st3]
  by_cases h0 : 0 ≤ i
  · rw [if_pos h0] at hcc hll
    subst hcc hll
    simp [h0]
    exact ⟨xr, same3⟩
  · have hgl : xr = xr := rfl
    obtain ⟨ax, hax⟩ := h.ro.len
    have l3' := l3
    rw [hax] at l3'
    by_cases hm : (rs.length : Int) = mr
    · have hm' : ((rs.length : Int) == mr) = true := by simp [hm]
      rw [if_neg h0, if_pos hm] at hcc hll
      subst hcc hll
      simp [h0, l3', hm]
      exact ⟨xr, same3⟩
    · have hm' : ((rs.length : Int) == mr) = false := by simp [hm]
      rw [if_neg h0, if_neg hm] at hcc hll
      subst hcc hll
      have z3 : zerosA [.int .i64 0, .int .i64 0, .int .i64 0] 3 = [iv 0, iv 0, iv 0] := rfl
      obtain ⟨a4, H4, H5, ap, st, P⟩ := push_row w3 h3.hp h3.bp h3.ro h3.pr (row3 r) rfl 0 (by simp) 24 0 (by omega)
      simp only [List.set_cons_zero] at P
      have lxn := load_newN w3 (show H3.load ⟨p, 0, none⟩ = some xr by rw [l3]; rfl)
      have l30 : H3.load ⟨p, 0, none⟩ = some xr := by rw [l3]; rfl
      have l34 : H3.load ⟨p, 4, none⟩ = some (iv mr) := by rw [l3]; rfl
      rw [hax] at lxn l30 ap
      simp [h0, l30, l34, hm', hm, lr3, z3]
      refine ⟨rfl, lxn _ _ _, ?_⟩
      rw [ap]
      simp [st]
      have hwr : ∀ b, blkOf (.slice (some a4) (rs.length + 1) 0) = some b → H3.next ≤ b ∧ b < H5.next := P.new
      refine ⟨.slice (some a4) (rs.length + 1) 0, ⟨by rw [B_eq P.base]; exact h3.hp, P.bp, ?_, ?_, ?_, h3.pw, ?_⟩, P.wf, P.base.trans b3, by have := P.next; omega, ?_, ?_, fun b hb => .inl hb⟩
      · rw [List.length_append, c3_append]
        have := P.own
        simpa [c3] using this
      · refine h3.wo.keep (B_eq P.base) (fun b hb => P.same b (h3.wo.lt w3 hb) (fun e => h3.pw (by rw [← e]; exact hb)) (fun e => h3.rw b e hb))
      · intro e
        have := (hwr p e).1
        omega
      · intro b hb e
        have := (hwr b hb).1
        have := h3.wo.lt w3 e
        omega
      · intro b hb hp' hx hx2
        rw [P.same b (by omega) hp' hx]
        exact k3' b hb
      · intro b hb
        have := (hwr b hb).1
        exact .inr (by omega)
theorem set2 : ∀ (l : List (Int × Int)) (i : Nat) (h : i < l.length) (v : Int), (c2 l).set (i * 2 + 1) (iv v) = c2 (l.set i (l[i].1, v))
  | a :: l, 0, h, v => by simp [c2, row2]
  | a :: l, i + 1, h, v => by
    have ih := set2 l i (by simpa using h) v
    have e : c2 (a :: l) = row2 a ++ c2 l := by simp [c2]
    rw [e, List.set_append_right _ _ (by simp [row2]; omega)]
    have e2 : (i + 1) * 2 + 1 - (row2 a).length = i * 2 + 1 := by simp [row2]; omega
    rw [e2, ih]
    simp [c2]
def writeC (ws : List (Int × Int)) (a : Int) (mw : Int) : Int := if 0 ≤ wIdx a ws then 0 else if (ws.length : Int) = mw then 200 else 0
def writeL (ws : List (Int × Int)) (a v : Int) (mw : Int) : List (Int × Int) := if 0 ≤ wIdx a ws then ws.set (wIdx a ws).toNat ((ws.getD (wIdx a ws).toNat (0, 0)).1, v) else if (ws.length : Int) = mw then ws else ws ++ [(a, v)]
theorem write_T {H : Heap} (hw : H.WF) {p : Nat} {rs : List R3} {ws : List (Int × Int)} {mr mw mo : Int} {xr xw xo hq : Value} (h : LG H p rs ws mr mw xr xw xo hq mo) (a v : Int) (hl : ws.length ≤ 1000) :
    ∃ y H', T Try.prog 25 [ptr p, iv a, iv v] H y H' ∧ y = iv (writeC ws a mw) ∧ ∃ xw', Lg H H' p xr xw rs (writeL ws a v mw) mr mw mo xo hq xr xw' := by
  refine T_by hm light25 ?_
  have hnB := hw.next_ge
  have hpn := hw.lt h.bp
  obtain ⟨H1, hH1⟩ : ∃ H1, H1 = H.new 3 1 [iv a] := ⟨_, rfl⟩
  have w1 : H1.WF := by rw [hH1]; exact WF_new hw _ _ _
  have n1 : H1.next = H.next + 1 := by rw [hH1]; rfl
  have b1 : H1.base = H.base := by rw [hH1]; rfl
  have k1 : ∀ b, b < H.next → H1.blk b = H.blk b := fun b hb => by rw [hH1]; simp [show b ≠ H.next by omega]
  have hc1 : H1.blk H.next = some ⟨3, 1, [iv a]⟩ := by rw [hH1]; simp
  have hB1 : ¬ H.next < H1.B := by rw [B_eq b1]; exact hnB
  have h1 := h.keep hw b1 k1
  have l1 : H1.load ⟨p, 1, none⟩ = some xw := by rw [load_at h1.hp h1.bp]; rfl
  obtain ⟨v3, H3, T3, rfl, s3⟩ := find2_T w1 h1.rowsW (isAt a) (says_at2 w1 hB1 hc1 ws) (by simp; omega)
  have w3 := T3.grow.wf w1
  have b3 := T3.1.trans b1
  have n3 := T3.grow.next
  have k3 : ∀ b, b < H1.next → H3.blk b = H1.blk b := fun b hb => s3 b hb (by simp)
  have k3' : ∀ b, b < H.next → H3.blk b = H.blk b := fun b hb => (k3 b (by omega)).trans (k1 b hb)
  have h3 := h.keep hw b3 k3'
  have l31 : H3.load ⟨p, 1, none⟩ = some xw := by rw [load_at h3.hp h3.bp]; rfl
  have l35 : H3.load ⟨p, 5, none⟩ = some (iv mw) := by rw [load_at h3.hp h3.bp]; rfl
  have lc3 : H3.load ⟨H.next, 0, none⟩ = some (iv a) := by
    rw [load_at (by rw [B_eq b3]; exact hnB) (show H3.blk H.next = some ⟨3, 1, [iv a]⟩ by rw [k3 _ (by omega)]; exact hc1)]; rfl
  obtain ⟨ax, hax⟩ := h.wo.len
  have hg := fIdx_ge (isAt a) (ws.map row2)
  rw [List.length_map] at hg
  obtain ⟨i, hi⟩ : ∃ i, i = wIdx a ws := ⟨_, rfl⟩
  have hi' : fIdx (isAt a) (ws.map row2) = i := hi.symm
  rw [hi'] at hg T3
  have same3 : Lg H H3 p xr xw rs ws mr mw mo xo hq xr xw := ⟨h3, w3, b3, by omega, fun b hb _ _ _ => k3' b hb, fun b hb => .inl hb, fun b hb => .inl hb⟩
  obtain ⟨cc, hcc⟩ : ∃ cc, cc = writeC ws a mw := ⟨_, rfl⟩
  obtain ⟨ll, hll⟩ : ∃ ll, ll = writeL ws a v mw := ⟨_, rfl⟩
  rw [← hcc, ← hll]
  unfold writeC at hcc
  unfold writeL at hll
  rw [← hi] at hcc hll
  simp [L25]
  rw [← hH1]
  simp [l1, isR0]
  refine goT_of T3 ?_
  by_cases h0 : 0 ≤ i
  · obtain ⟨j, rfl⟩ : ∃ j : Nat, i = j := ⟨i.toNat, by omega⟩
    have hj : j < ws.length := by omega
    rcases h3.wo.2 with ⟨_, h00⟩ | ⟨bw, rest, hbw, hBw, hkw⟩
    · omega
    have hst : H3.store ⟨bw, j * 2 + 1, none⟩ (iv v) = some (H3.put bw (c2 (ws.set j (ws[j].1, v)) ++ rest)) := by
      have hcl : (c2 ws).length = ws.length * 2 := h3.wo.1
      rw [store_own hBw hkw, if_pos (by rw [List.length_append]; omega), List.set_append_left _ _ (by omega), set2 ws j hj v]
    obtain ⟨H4, hH4⟩ : ∃ H4, H4 = H3.put bw (c2 (ws.set j (ws[j].1, v)) ++ rest) := ⟨_, rfl⟩
    rw [← hH4] at hst
    have pb : p ≠ bw := fun e => h3.pw (by rw [hbw, e]; rfl)
    have hxw : blkOf xw = some bw := by rw [hbw]; rfl
    have fin : Lg H H4 p xr xw rs (ws.set j (ws[j].1, v)) mr mw mo xo hq xr xw := by
      refine ⟨⟨by rw [hH4]; simpa using h3.hp, by rw [hH4]; simp [pb, h3.bp], ?_, ?_, h3.pr, h3.pw, h3.rw⟩, by rw [hH4]; exact WF_put w3 _ _, by rw [hH4]; exact b3, by rw [hH4]; simp; omega, ?_, fun b hb => .inl hb, fun b hb => .inl hb⟩
      · refine h3.ro.keep (by rw [hH4]; rfl) (fun b hb => ?_)
        have : b ≠ bw := fun e => h3.rw b hb (by rw [hxw, e])
        rw [hH4]; simp [this]
      · refine ⟨by rw [← set2 ws j hj v, List.length_set, List.length_set]; exact h3.wo.1, .inr ⟨bw, rest, by rw [List.length_set]; exact hbw, by rw [hH4]; simpa using hBw, by rw [hH4]; simp [hkw]⟩⟩
      · intro b hb hp' hx hx2
        have : b ≠ bw := fun e => hx2 (by rw [hxw, e])
        rw [hH4]; simp [this]
        exact k3' b hb
    have e1 : ws.getD j (0, 0) = ws[j] := by simp [List.getD, hj]
    rw [if_pos h0] at hcc hll
    rw [Int.toNat_natCast, e1] at hll
    subst hcc hll
    rw [hbw] at l31
    simp [l31, hj, hst]
    exact ⟨xw, fin⟩
  · by_cases hm : (ws.length : Int) = mw
    · have hm' : ((ws.length : Int) == mw) = true := by simp [hm]
      rw [if_neg h0, if_pos hm] at hcc hll
      subst hcc hll
      have l31' := l31
      rw [hax] at l31'
      simp [h0, l31', l35, hm]
      exact ⟨xw, same3⟩
    · have hm' : ((ws.length : Int) == mw) = false := by simp [hm]
      rw [if_neg h0, if_neg hm] at hcc hll
      subst hcc hll
      have z2 : zerosA [.int .i64 0, .int .i64 0] 2 = [iv 0, iv 0] := rfl
      obtain ⟨a4, H4, H5, ap, st, P⟩ := push_row w3 h3.hp h3.bp h3.wo h3.pw (row2 (a, v)) rfl 1 (by simp) 16 0 (by omega)
      simp only [List.set_cons_zero, List.set_cons_succ] at P
      have l31' := l31
      have lxn := load_newN w3 l31
      rw [hax] at lxn l31' ap
      have ap' : sAppend (H3.new 92 2 [iv a, iv v]) 92 2 16 (.slice ax ws.length 0) (.slice (some ⟨H3.next, 0, none⟩) 1 0) = _ := ap
      simp [h0, l31', l35, hm', hm, lc3, z2, lxn, ap', st]
      have hwr : ∀ b, blkOf (.slice (some a4) (ws.length + 1) 0) = some b → H3.next ≤ b ∧ b < H5.next := P.new
      refine ⟨.slice (some a4) (ws.length + 1) 0, ⟨by rw [B_eq P.base]; exact h3.hp, P.bp, ?_, ?_, h3.pr, ?_, ?_⟩, P.wf, P.base.trans b3, by have := P.next; omega, ?_, fun b hb => .inl hb, ?_⟩
      · refine h3.ro.keep (B_eq P.base) (fun b hb => P.same b (h3.ro.lt w3 hb) (fun e => h3.pr (by rw [← e]; exact hb)) (h3.rw b hb))
      · rw [List.length_append, c2_append]
        have := P.own
        simpa [c2] using this
      · intro e
        have := (hwr p e).1
        omega
      · intro b hb e
        have := (hwr b e).1
        have := h3.ro.lt w3 hb
        omega
      · intro b hb hp' hx hx2
        rw [P.same b (by omega) hp' hx2]
        exact k3' b hb
      · intro b hb
        have := (hwr b hb).1
        exact .inr (by omega)
end Go.Proofs.Ytjpdoflmjokplaa
namespace Go.Proofs.Ytjpdoflmjokplaa
open Go.Ot
set_option linter.unusedSimpArgs false
set_option linter.unusedVariables false
def isBad (m : List Int) : List Value → Bool
  | .int _ a :: .int _ v :: _ => !(decide (0 ≤ a) && decide (a < m.length) && (m.getD a.toNat 0 == v))
  | _ => false
theorem says_bad {H : Heap} (hw : H.WF) {c : Nat} {x : Value} {m : List Int} (hB : ¬ c < H.B) (hc : H.blk c = some ⟨23, 1, [x]⟩) (hx : Ints H .i64 x m) (l : List R3) : Says H (.func (.func 24) #[] #[ptr c]) (isBad m) (l.map row3) := by
  intro H1 w1 b1 n1 o1 r hr
  obtain ⟨q, _, rfl⟩ := List.mem_map.1 hr
  have hc1 : H1.blk c = some ⟨23, 1, [x]⟩ := by rw [o1 c (hw.lt hc)]; exact hc
  have hB1 : ¬ c < H1.B := by rw [B_eq b1]; exact hB
  have hx1 := hx.keep hw b1 o1
  have : ∃ v H2, T Try.prog 24 [.agg (row3 q).toArray, ptr c] H1 v H2 ∧ v = .bool (isBad m (row3 q)) ∧ Same H1 H2 [] := by
    refine T_by hm light24 ?_
    have l0 := new_load w1 29 3 (row3 q)
    have l1 : (H1.new 29 3 (row3 q)).load ⟨c, 0, none⟩ = some x := load_newN w1 (by rw [load_at hB1 hc1]; rfl) _ _ _
    have hx2 : Ints (H1.new 29 3 (row3 q)) .i64 x m := Ints.keep (H' := H1.new 29 3 (row3 q)) w1 rfl (fun b hb => by simp [show b ≠ H1.next by omega]) hx1
    have s2 : Same H1 (H1.new 29 3 (row3 q)) [] := fun b hb _ => by simp [show b ≠ H1.next by omega]
    obtain ⟨xa, xc, hxl⟩ := hx2.len
    obtain ⟨a, v, fr⟩ := q
    simp only [row3] at l0 l1 hx2 s2
    by_cases h1 : a < 0
    · have h1' : ¬ 0 ≤ a := by omega
      simp [L24, l0, h1, row3, isBad, h1', s2]
    · by_cases h2 : (m.length : Int) ≤ a
      · have h2' : ¬ a < m.length := by omega
        rw [hxl] at l1
        simp [L24, l0, l1, h1, h2, row3, isBad, h2', s2]
      · obtain ⟨i, rfl⟩ : ∃ i : Nat, a = i := ⟨a.toNat, by omega⟩
        have hi : i < m.length := by omega
        obtain ⟨b, off, cc, hb, ld⟩ := hx2.at hi
        rw [hb] at l1
        have e1 : m.getD i 0 = m[i] := by simp [List.getD, hi]
        simp [L24, l0, l1, h2, hi, ld, row3, isBad, s2]
        rfl
  obtain ⟨v, H2, T2, rfl, s2⟩ := this
  exact ⟨H2, ⟨24, #[], #[ptr c], rfl, ⟨Try.f24, Try.func24, by kernel_rfl, by kernel_rfl⟩, T2⟩, s2⟩
def holdsV (rs : List R3) (m : List Int) : Bool := decide (fIdx (isBad m) (rs.map row3) < 0)
theorem holds_T {H : Heap} (hw : H.WF) {p : Nat} {rs : List R3} {ws : List (Int × Int)} {mr mw mo : Int} {xr xw xo hq : Value} (h : LG H p rs ws mr mw xr xw xo hq mo) {x : Value} {m : List Int} (hx : Ints H .i64 x m) (hl : rs.length ≤ 1000) :
    ∃ v H', T Try.prog 8 [ptr p, x] H v H' ∧ v = .bool (holdsV rs m) ∧ Same H H' [] := by
  refine T_by hm light8 ?_
  have hnB := hw.next_ge
  obtain ⟨xa, xc, hxl⟩ := hx.len
  obtain ⟨H1, hH1⟩ : ∃ H1, H1 = H.new 23 1 [x] := ⟨_, rfl⟩
  have w1 : H1.WF := by rw [hH1]; exact WF_new hw _ _ _
  have n1 : H1.next = H.next + 1 := by rw [hH1]; rfl
  have b1 : H1.base = H.base := by rw [hH1]; rfl
  have k1 : ∀ b, b < H.next → H1.blk b = H.blk b := fun b hb => by rw [hH1]; simp [show b ≠ H.next by omega]
  have hc1 : H1.blk H.next = some ⟨23, 1, [x]⟩ := by rw [hH1]; simp
  have hB1 : ¬ H.next < H1.B := by rw [B_eq b1]; exact hnB
  have h1 := h.keep hw b1 k1
  have hx1 := hx.keep hw b1 k1
  have l1 : H1.load ⟨p, 0, none⟩ = some xr := by rw [load_at h1.hp h1.bp]; rfl
  obtain ⟨v3, H3, T3, rfl, s3⟩ := find3_T w1 h1.rows (isBad m) (says_bad w1 hB1 hc1 hx1 rs) (by simp; omega)
  have n3 := T3.grow.next
  obtain ⟨i, hi⟩ : ∃ i, i = fIdx (isBad m) (rs.map row3) := ⟨_, rfl⟩
  unfold holdsV
  rw [← hi] at T3 ⊢
  rw [hxl] at hH1
  rw [hxl]
  simp [L8]
  rw [← hH1]
  simp [l1, isR0]
  refine goT_of T3 ?_
  simp
  exact fun b hb _ => (s3 b (by omega) (by simp)).trans (k1 b hb)
theorem rnew_T {H : Heap} (hw : H.WF) : T Try.prog 22 [.slice none 0 0] H (.tuple #[ptr H.next, iv 0]) (H.new 97 3 [.slice none 0 0, .slice none 0 0, iv 0]) := by
  refine T_eq hm light22 ?_
  simp [L22]
  refine loop_at (fun k t H1 => t 4 = ptr H.next ∧ t 13 = iv 0 ∧ t 14 = iv 0 ∧ H1 = H.new 97 3 [.slice none 0 0, .slice none 0 0, iv 0]) 0 ?_ ?_
  · simp
  · rintro k t H1 ⟨t4, t13, t14, rfl⟩
    simp [L22_1, t4, t13, t14, packV]
def InvNw (H : Heap) (n1 n2 n3 : Nat) (k : Nat) (t : Tm) (H1 : Heap) : Prop :=
  ∃ i : Nat, i + k = 3 ∧ t 0 = iv n1 ∧ t 1 = iv n2 ∧ t 2 = iv n3 ∧ t 3 = .slice none 0 0 ∧ t 17 = .agg #[iv n1, iv n2, iv n3] ∧ t 18 = iv i ∧ H1 = H
theorem lnew_T {H : Heap} (hw : H.WF) (n1 n2 n3 : Nat) (h1 : 1 ≤ n1 ∧ n1 ≤ 64) (h2 : 1 ≤ n2 ∧ n2 ≤ 64) (h3 : 1 ≤ n3 ∧ n3 ≤ 64) :
    ∃ v H', T Try.prog 6 [iv n1, iv n2, iv n3, .slice none 0 0] H v H' ∧ v = .tuple #[ptr (H.next + 1), iv 0] ∧ H'.next = H.next + 2 ∧ Same H H' [] ∧ ∃ hq, LG H' (H.next + 1) [] [] n1 n2 (.slice none 0 0) (.slice none 0 0) (.slice none 0 0) hq n3 := by
  refine T_by hm light6 ?_
  have hnB := hw.next_ge
  have T1 := rnew_T hw
  obtain ⟨H1, hH1⟩ : ∃ H1, H1 = H.new 97 3 [.slice none 0 0, .slice none 0 0, iv 0] := ⟨_, rfl⟩
  rw [← hH1] at T1
  have nn1 : H1.next = H.next + 1 := by rw [hH1]; rfl
  have bb1 : H1.base = H.base := by rw [hH1]; rfl
  simp [L6]
  refine loop_at (InvNw H n1 n2 n3) 3 ?_ ?_
  · exact ⟨0, rfl, by simp, by simp, by simp, by simp, by simp, by simp, rfl⟩
  · rintro k t H2 ⟨i, hik, t0, t1, t2, t3, t17, t18, rfl⟩
    cases k with
    | zero =>
      have e0 : i = 3 := by omega
      subst e0
      simp [L6_1, t18]
      refine goT_of (by rw [t3]; exact T1) ?_
      simp [t0, t1, t2, packV, nn1]
      refine ⟨?_, _, ⟨by simp; rw [B_eq bb1]; omega, by simp [nn1]; rfl, Own.nil _ _ _, Own.nil _ _ _, by simp, by simp, by simp⟩⟩
      intro b hb _
      simp [show b ≠ H2.next + 1 by omega, nn1, hH1, show b ≠ H2.next by omega]
    | succ k =>
      have hi : i < 3 := by omega
      have e3 : IntKind.i64.wrap ((i : Int) + 1) = ((i + 1 : Nat) : Int) := by rw [w64 _ (by omega)]; omega
      obtain ⟨i1, hi1⟩ : ∃ i1, i1 = i + 1 := ⟨_, rfl⟩
      rw [← hi1] at e3
      have fin : ∀ t' : Tm, t' 0 = iv n1 → t' 1 = iv n2 → t' 2 = iv n3 → t' 3 = .slice none 0 0 → t' 17 = .agg #[iv n1, iv n2, iv n3] → t' 18 = iv i1 → ∃ m, m < k + 1 ∧ InvNw H2 n1 n2 n3 m t' H2 :=
        fun t' g0 g1 g2 g3 g17 g18 => ⟨k, Nat.lt_succ_self k, i1, by omega, g0, g1, g2, g3, g17, g18, rfl⟩
      have c1 : ¬ (n1 = 0) := by omega
      have c2 : ¬ (n2 = 0) := by omega
      have c3 : ¬ (n3 = 0) := by omega
      have d1 : ¬ 64 < n1 := by omega
      have d2 : ¬ 64 < n2 := by omega
      have d3 : ¬ 64 < n3 := by omega
      have f1 : ¬ n1 < 1 := by omega
      have f2 : ¬ n2 < 1 := by omega
      have f3 : ¬ n3 < 1 := by omega
      have hcase : i = 0 ∨ i = 1 ∨ i = 2 := by omega
      rcases hcase with rfl | rfl | rfl
      · simp [L6_1, t17, t18, c1, d1, f1]
        exact fin _ (by simp [t0]) (by simp [t1]) (by simp [t2]) (by simp [t3]) (by simp [t17]) (by simp [hi1])
      · simp [L6_1, t17, t18, c2, d2, f2]
        exact fin _ (by simp [t0]) (by simp [t1]) (by simp [t2]) (by simp [t3]) (by simp [t17]) (by simp [hi1])
      · simp [L6_1, t17, t18, c3, d3, f3]
        exact fin _ (by simp [t0]) (by simp [t1]) (by simp [t2]) (by simp [t3]) (by simp [t17]) (by simp [hi1])
end Go.Proofs.Ytjpdoflmjokplaa
