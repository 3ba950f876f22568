/-
  Chapter 22: a log: what its functions do.
-/
import Derived.Test.YtjpdoflmjokplaaSeatA
namespace Go.Proofs.Ytjpdoflmjokplaa
open Go.Ot
set_option linter.unusedSimpArgs false
set_option linter.unusedVariables false
abbrev R3 := Int × Int × Int
def row3 (r : R3) : List Value := [iv r.1, iv r.2.1, iv r.2.2]
def row2 (r : Int × Int) : List Value := [iv r.1, iv r.2]
def c3 (l : List R3) : List Value := (l.map row3).flatten
def c2 (l : List (Int × Int)) : List Value := (l.map row2).flatten
/-- At p stands a log of these reads and writes, with so much room. -/
structure LG (H : Heap) (p : Nat) (rs : List R3) (ws : List (Int × Int)) (mr mw : Int) (xr xw xo hq : Value) (mo : Int) : Prop where
  hp : ¬ p < H.B
  bp : H.blk p = some ⟨71, 7, [xr, xw, xo, hq, iv mr, iv mw, iv mo]⟩
  ro : Own H 29 3 rs.length (c3 rs) xr
  wo : Own H 92 2 ws.length (c2 ws) xw
  pr : blkOf xr ≠ some p
  pw : blkOf xw ≠ some p
  rw : ∀ b, blkOf xr = some b → blkOf xw ≠ some b
theorem LG.keep {H H' : Heap} (hw : H.WF) {p : Nat} {rs : List R3} {ws : List (Int × Int)} {mr mw mo : Int} {xr xw xo hq : Value} (h : LG H p rs ws mr mw xr xw xo hq mo) (hb : H'.base = H.base) (hk : ∀ b, b < H.next → H'.blk b = H.blk b) : LG H' p rs ws mr mw xr xw xo hq mo :=
  ⟨by rw [B_eq hb]; exact h.hp, by rw [hk p (hw.lt h.bp)]; exact h.bp, h.ro.keep (B_eq hb) (fun b e => hk b (h.ro.lt hw e)), h.wo.keep (B_eq hb) (fun b e => hk b (h.wo.lt hw e)), h.pr, h.pw, h.rw⟩
theorem LG.rows {H : Heap} {p : Nat} {rs : List R3} {ws : List (Int × Int)} {mr mw mo : Int} {xr xw xo hq : Value} (h : LG H p rs ws mr mw xr xw xo hq mo) : Rws H 3 xr (rs.map row3) := by
  refine Own.rws (ety := 29) (by intro r hr; obtain ⟨q, _, rfl⟩ := List.mem_map.1 hr; rfl) ?_
  simpa [c3] using h.ro
theorem LG.rowsW {H : Heap} {p : Nat} {rs : List R3} {ws : List (Int × Int)} {mr mw mo : Int} {xr xw xo hq : Value} (h : LG H p rs ws mr mw xr xw xo hq mo) : Rws H 2 xw (ws.map row2) := by
  refine Own.rws (ety := 92) (by intro r hr; obtain ⟨q, _, rfl⟩ := List.mem_map.1 hr; rfl) ?_
  simpa [c2] using h.wo
def isAt (a : Int) : List Value → Bool
  | .int _ n :: _ => n == a
  | _ => false
theorem says_at3 {H : Heap} (hw : H.WF) {c : Nat} {a : Int} (hB : ¬ c < H.B) (hc : H.blk c = some ⟨3, 1, [iv a]⟩) (l : List R3) : Says H (.func (.func 26) #[] #[ptr c]) (isAt a) (l.map row3) := by
  intro H1 w1 b1 n1 o1 r hr
  obtain ⟨q, _, rfl⟩ := List.mem_map.1 hr
  have hc1 : H1.blk c = some ⟨3, 1, [iv a]⟩ := by rw [o1 c (hw.lt hc)]; exact hc
  have hB1 : ¬ c < H1.B := by rw [B_eq b1]; exact hB
  have : ∃ v H2, T Try.prog 26 [.agg (row3 q).toArray, ptr c] H1 v H2 ∧ v = .bool (isAt a (row3 q)) ∧ Same H1 H2 [] := by
    refine T_by hm light26 ?_
    have l0 := new_load w1 29 3 (row3 q)
    have l1 : (H1.new 29 3 (row3 q)).load ⟨c, 0, none⟩ = some (iv a) := load_newN w1 (by rw [load_at hB1 hc1]; rfl) _ _ _
    simp [row3] at l0 l1
    simp [L26, row3, l0, l1, isAt]
    intro b hb _
    simp [show b ≠ H1.next by omega]
  obtain ⟨v, H2, T2, rfl, s2⟩ := this
  exact ⟨H2, ⟨26, #[ptr c], rfl, ⟨Try.f26, Try.func26, by kernel_rfl, by kernel_rfl⟩, T2⟩, s2⟩
theorem says_at2 {H : Heap} (hw : H.WF) {c : Nat} {a : Int} (hB : ¬ c < H.B) (hc : H.blk c = some ⟨3, 1, [iv a]⟩) (l : List (Int × Int)) : Says H (.func (.func 49) #[] #[ptr c]) (isAt a) (l.map row2) := by
  intro H1 w1 b1 n1 o1 r hr
  obtain ⟨q, _, rfl⟩ := List.mem_map.1 hr
  have hc1 : H1.blk c = some ⟨3, 1, [iv a]⟩ := by rw [o1 c (hw.lt hc)]; exact hc
  have hB1 : ¬ c < H1.B := by rw [B_eq b1]; exact hB
  have : ∃ v H2, T Try.prog 49 [.agg (row2 q).toArray, ptr c] H1 v H2 ∧ v = .bool (isAt a (row2 q)) ∧ Same H1 H2 [] := by
    refine T_by hm light49 ?_
    have l0 := new_load w1 92 2 (row2 q)
    have l1 : (H1.new 92 2 (row2 q)).load ⟨c, 0, none⟩ = some (iv a) := load_newN w1 (by rw [load_at hB1 hc1]; rfl) _ _ _
    simp [row2] at l0 l1
    simp [L49, row2, l0, l1, isAt]
    intro b hb _
    simp [show b ≠ H1.next by omega]
  obtain ⟨v, H2, T2, rfl, s2⟩ := this
  exact ⟨H2, ⟨49, #[ptr c], rfl, ⟨Try.f49, Try.func49, by kernel_rfl, by kernel_rfl⟩, T2⟩, s2⟩
def rIdx (a : Int) (rs : List R3) : Int := fIdx (isAt a) (rs.map row3)
def wIdx (a : Int) (ws : List (Int × Int)) : Int := fIdx (isAt a) (ws.map row2)
def rowAt (rs : List R3) (i : Int) : R3 := if 0 ≤ i then rs.getD i.toNat (0, 0, 0) else (0, 0, 0)
theorem read_T {H : Heap} (hw : H.WF) {p : Nat} {rs : List R3} {ws : List (Int × Int)} {mr mw mo : Int} {xr xw xo hq : Value} (h : LG H p rs ws mr mw xr xw xo hq mo) (a : Int) (hl : rs.length ≤ 1000) :
    ∃ v H', T Try.prog 10 [ptr p, iv a] H v H' ∧ v = .tuple #[.agg (row3 (rowAt rs (rIdx a rs))).toArray, .bool (decide (0 ≤ rIdx a rs))] ∧ Same H H' [] := by
  refine T_by hm light10 ?_
  have hnB := hw.next_ge
  have hpn := hw.lt h.bp
  obtain ⟨H1, hH1⟩ : ∃ H1, H1 = H.new 3 1 [iv a] := ⟨_, rfl⟩
  have w1 : H1.WF := by rw [hH1]; exact WF_new hw _ _ _
  have n1 : H1.next = H.next + 1 := by rw [hH1]; rfl
  have k1 : ∀ b, b < H.next → H1.blk b = H.blk b := fun b hb => by rw [hH1]; simp [show b ≠ H.next by omega]
  have hc1 : H1.blk H.next = some ⟨3, 1, [iv a]⟩ := by rw [hH1]; simp
  obtain ⟨H2, hH2⟩ : ∃ H2, H2 = H1.new 29 3 [iv 0, iv 0, iv 0] := ⟨_, rfl⟩
  have w2 : H2.WF := by rw [hH2]; exact WF_new w1 _ _ _
  have n2 : H2.next = H.next + 2 := by rw [hH2]; simp [n1]
  have b2 : H2.base = H.base := by rw [hH2, hH1]; rfl
  have k2 : ∀ b, b < H.next → H2.blk b = H.blk b := fun b hb => by rw [hH2]; simp [show b ≠ H1.next by omega]; exact k1 b hb
  have hc2 : H2.blk H.next = some ⟨3, 1, [iv a]⟩ := by rw [hH2]; simp [show H.next ≠ H1.next by omega, hc1]
  have ho2 : H2.blk (H.next + 1) = some ⟨29, 3, [iv 0, iv 0, iv 0]⟩ := by rw [hH2]; simp [n1]
  have hB2 : ¬ H.next < H2.B := by rw [B_eq b2]; exact hnB
  have h2 := h.keep hw b2 k2
  have l2 := fun off => load_at (off := off) h2.hp h2.bp
  obtain ⟨v3, H3, T3, rfl, s3⟩ := find3_T w2 h2.rows (isAt a) (says_at3 w2 hB2 hc2 rs) (by simp; omega)
  have w3 := T3.grow.wf w2
  have b3 := T3.1
  have n3 := T3.grow.next
  have h3 := h2.keep w2 b3 (fun b hb => s3 b hb (by simp))
  have l3 := fun off => load_at (off := off) h3.hp h3.bp
  have ho3 : H3.blk (H.next + 1) = some ⟨29, 3, [iv 0, iv 0, iv 0]⟩ := by rw [s3 _ (by omega) (by simp)]; exact ho2
  have hB3 : ¬ H.next + 1 < H3.B := by rw [B_eq b3, B_eq b2]; omega
  have st : ∀ row : List Value, row.length = 3 → sStore H3 3 (.pointer (some ⟨H.next + 1, 0, none⟩)) (.agg row.toArray) = some (H3.put (H.next + 1) row) := fun row hrow => by
    rw [sStore_agg _ _ _ _ hrow (by decide), storeN_at hB3 ho3 (by simp [hrow])]
    simp only [Nat.zero_add, List.take_zero, List.nil_append, hrow]
    simp
  have lo : ∀ row : List Value, row.length = 3 → (H3.put (H.next + 1) row).loadN ⟨H.next + 1, 0, none⟩ 0 3 = some row := fun row hrow => by
    rw [loadN_at (k := ⟨29, 3, row⟩) (by simpa using hB3) (by simp [ho3]) (by simp; omega)]
    simp only [Nat.add_zero, List.drop_zero]
    rw [List.take_of_length_le (by omega)]
  have sm : ∀ row : List Value, Same H (H3.put (H.next + 1) row) [] := fun row b hb _ => by
    simp [show b ≠ H.next + 1 by omega]
    rw [s3 b (by omega) (by simp), k2 b hb]
  have st0 := st [iv 0, iv 0, iv 0] rfl
  have lo0 := lo [iv 0, iv 0, iv 0] rfl
  have sm0 := sm [iv 0, iv 0, iv 0]
  have hg := fIdx_ge (isAt a) (rs.map row3)
  rw [List.length_map] at hg
  obtain ⟨i, hi⟩ : ∃ i, i = rIdx a rs := ⟨_, rfl⟩
  have hi' : fIdx (isAt a) (rs.map row3) = i := hi.symm
  rw [hi'] at hg T3
  rw [← hi]
  simp [L10]
  rw [← hH1, ← n1, ← hH2]
  simp [l2, isR0]
  refine goT_of T3 ?_
  rw [n1]
  by_cases hneg : i < 0
  · have e1 : rowAt rs i = (0, 0, 0) := by unfold rowAt; rw [if_neg (by omega)]
    have e2 : ¬ 0 ≤ i := by omega
    simp [hneg, st0, lo0, packV, e1, e2, row3, sm0]
  · obtain ⟨j, rfl⟩ : ∃ j : Nat, i = j := ⟨i.toNat, by omega⟩
    have hj : j < rs.length := by omega
    obtain ⟨b, off, c, hxr, hlen, ld, _⟩ := h3.rows.at (i := j) (by simpa using hj)
    simp only [List.getElem_map, List.length_map] at hxr hlen ld
    have e1 : rowAt rs j = rs[j] := by unfold rowAt; rw [if_pos (by omega)]; simp [List.getD, hj]
    have st1 := st (row3 rs[j]) rfl
    have lo1 := lo (row3 rs[j]) rfl
    have sm1 := sm (row3 rs[j])
    rw [hxr] at l3
    simp [l3, hj, ld, st1, lo1, packV, e1, sm1]
end Go.Proofs.Ytjpdoflmjokplaa
