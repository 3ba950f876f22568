/-
  Chapter 22: a whole log: From, Written, Room; what it hands out.
-/
import Derived.Test.YtjpdoflmjokplaaSeatK
namespace Go.Proofs.Ytjpdoflmjokplaa
open Go.Ot Go.RowKit
set_option linter.unusedSimpArgs false
set_option linter.unusedVariables false
theorem says_from3 {H : Heap} (hw : H.WF) {c : Nat} {a : Int} (hB : ¬ c < H.B) (hc : H.blk c = some ⟨3, 1, [iv a]⟩) (l : List R3) : Says H (.func (.func 51) #[] #[ptr c]) (isAt a) (l.map row3) := by
  intro H1 w1 b1 n1 o1 r hr
  obtain ⟨q, _, rfl⟩ := List.mem_map.1 hr
  have hc1 : H1.blk c = some ⟨3, 1, [iv a]⟩ := by rw [o1 c (hw.lt hc)]; exact hc
  have hB1 : ¬ c < H1.B := by rw [B_eq b1]; exact hB
  have : ∃ v H2, T Try.prog 51 [.agg (row3 q).toArray, ptr c] H1 v H2 ∧ v = .bool (isAt a (row3 q)) ∧ Same H1 H2 [] := by
    refine T_by hm light51 ?_
    have l0 := new_load w1 29 3 (row3 q)
    have l1 : (H1.new 29 3 (row3 q)).load ⟨c, 0, none⟩ = some (iv a) := load_newN w1 (by rw [load_at hB1 hc1]; rfl) _ _ _
    simp [row3] at l0 l1
    simp [L51, row3, l0, l1, isAt]
    intro b hb _
    simp [show b ≠ H1.next by omega]
  obtain ⟨v, H2, T2, rfl, s2⟩ := this
  exact ⟨H2, ⟨51, #[], #[ptr c], rfl, ⟨Try.f51, Try.func51, by kernel_rfl, by kernel_rfl⟩, T2⟩, s2⟩
theorem says_wr2 {H : Heap} (hw : H.WF) {c : Nat} {a : Int} (hB : ¬ c < H.B) (hc : H.blk c = some ⟨3, 1, [iv a]⟩) (l : List (Int × Int)) : Says H (.func (.func 53) #[] #[ptr c]) (isAt a) (l.map row2) := by
  intro H1 w1 b1 n1 o1 r hr
  obtain ⟨q, _, rfl⟩ := List.mem_map.1 hr
  have hc1 : H1.blk c = some ⟨3, 1, [iv a]⟩ := by rw [o1 c (hw.lt hc)]; exact hc
  have hB1 : ¬ c < H1.B := by rw [B_eq b1]; exact hB
  have : ∃ v H2, T Try.prog 53 [.agg (row2 q).toArray, ptr c] H1 v H2 ∧ v = .bool (isAt a (row2 q)) ∧ Same H1 H2 [] := by
    refine T_by hm light53 ?_
    have l0 := new_load w1 92 2 (row2 q)
    have l1 : (H1.new 92 2 (row2 q)).load ⟨c, 0, none⟩ = some (iv a) := load_newN w1 (by rw [load_at hB1 hc1]; rfl) _ _ _
    simp [row2] at l0 l1
    simp [L53, row2, l0, l1, isAt]
    intro b hb _
    simp [show b ≠ H1.next by omega]
  obtain ⟨v, H2, T2, rfl, s2⟩ := this
  exact ⟨H2, ⟨53, #[], #[ptr c], rfl, ⟨Try.f53, Try.func53, by kernel_rfl, by kernel_rfl⟩, T2⟩, s2⟩
theorem written_T {H : Heap} {lo hi p q : Nat} {ops : List Int} {mr mw mo : Int} {d : LD} {x : LX} (hw : H.WF) (s : LS H lo hi p q ops mr mw mo d x) (a : Int) (hl : d.ws.length ≤ 1000) :
    T Try.prog 40 [ptr p, iv a] H (.tuple #[iv (if 0 ≤ wIdx a d.ws then (d.ws.getD (wIdx a d.ws).toNat (0, 0)).2 else 0), .bool (decide (0 ≤ wIdx a d.ws))]) H := by
  refine T_seen hm light40 rfl ?_
  have hnB := hw.next_ge
  obtain ⟨H1, hH1⟩ : ∃ H1, H1 = H.new 3 1 [iv a] := ⟨_, rfl⟩
  have w1 : H1.WF := by rw [hH1]; exact WF_new hw _ _ _
  have n1 : H1.next = H.next + 1 := by rw [hH1]; rfl
  have b1 : H1.base = H.base := by rw [hH1]; rfl
  have k1 : ∀ b, b < H.next → H1.blk b = H.blk b := fun b hb => by rw [hH1]; simp [show b ≠ H.next by omega]
  have hc1 : H1.blk H.next = some ⟨3, 1, [iv a]⟩ := by rw [hH1]; simp
  have hB1 : ¬ H.next < H1.B := by rw [B_eq b1]; exact hnB
  have s1 := s.on hw b1 (by omega) k1
  obtain ⟨l0, l1, l2, l3, l4, l5, l6⟩ := s1.ld
  obtain ⟨v3, H3, T3, rfl, sm3⟩ := find2_T w1 s1.lg.rowsW (isAt a) (says_wr2 w1 hB1 hc1 d.ws) (by simp; omega)
  have w3 := T3.grow.wf w1
  have n3 := T3.grow.next
  have k3 : ∀ b, b < H1.next → H3.blk b = H1.blk b := fun b hb => sm3 b hb (by simp)
  have s3 := s1.on w1 T3.1 n3 k3
  have kk : ∀ b, b < H.next → H3.blk b = H.blk b := fun b hb => (k3 b (by omega)).trans (k1 b hb)
  obtain ⟨m0, m1, m2, m3, m4, m5, m6⟩ := s3.ld
  obtain ⟨i, hi⟩ : ∃ i, i = wIdx a d.ws := ⟨_, rfl⟩
  have hg := fIdx_ge (isAt a) (d.ws.map row2)
  rw [List.length_map] at hg
  have hi' : fIdx (isAt a) (d.ws.map row2) = i := hi.symm
  rw [hi'] at hg T3
  rw [← hi]
  simp [L40]
  rw [← hH1]
  simp [l1, isR0]
  refine goT_of T3 ?_
  by_cases h0 : 0 ≤ i
  · obtain ⟨j, rfl⟩ : ∃ j : Nat, i = j := ⟨i.toNat, by omega⟩
    have hj : j < d.ws.length := by omega
    obtain ⟨bw, off, c, hxw, _, _, hld⟩ := s3.lg.rowsW.at (i := j) (by simpa using hj)
    rw [List.length_map] at hxw
    have ld : H3.load ⟨bw, off + j * 2 + 1, none⟩ = some (iv d.ws[j].2) := by
      have := hld 1 (by simp [row2])
      simpa [row2] using this
    rw [hxw] at m1
    have hneg : ¬ ((j : Int) < 0) := by omega
    simp [m1, hj, ld, hneg]
    exact kk
  · have hneg : i < 0 := by omega
    simp [h0, hneg]
    exact kk
theorem lroom_T {H : Heap} {lo hi p q : Nat} {ops : List Int} {mr mw mo : Int} {d : LD} {x : LX} (hw : H.WF) (s : LS H lo hi p q ops mr mw mo d x) (a : Int) (hl : d.ws.length ≤ 1000) :
    T Try.prog 33 [ptr p, iv a] H (.bool (decide (0 ≤ wIdx a d.ws) || decide ((d.ws.length : Int) < mw))) H := by
  refine T_eq hm light33 ?_
  have hT := written_T hw s a hl
  obtain ⟨l0, l1, l2, l3, l4, l5, l6⟩ := s.ld
  obtain ⟨aw, hxw⟩ := s.lg.wo.len
  rw [hxw] at l1
  obtain ⟨bb, hbb⟩ : ∃ bb, bb = decide (0 ≤ wIdx a d.ws) := ⟨_, rfl⟩
  rw [← hbb] at hT ⊢
  simp [L33]
  refine goT_of hT ?_
  cases bb <;> simp [l1, l5]
theorem set3 : ∀ (l : List R3) (i : Nat) (h : i < l.length) (v : Int), (c3 l).set (i * 3 + 2) (iv v) = c3 (l.set i (l[i].1, l[i].2.1, v))
  | a :: l, 0, h, v => by simp [c3, row3]
  | a :: l, i + 1, h, v => by
    have ih := set3 l i (by simpa using h) v
    have e : c3 (a :: l) = row3 a ++ c3 l := by simp [c3]
    rw [e, List.set_append_right _ _ (by simp [row3]; omega)]
    have e2 : (i + 1) * 3 + 2 - (row3 a).length = i * 3 + 2 := by simp [row3]; omega
    rw [e2, ih]
    simp [c3]
def fromL (rs : List R3) (a f : Int) : List R3 := if 0 ≤ rIdx a rs then rs.set (rIdx a rs).toNat ((rs.getD (rIdx a rs).toNat (0, 0, 0)).1, (rs.getD (rIdx a rs).toNat (0, 0, 0)).2.1, f) else rs
theorem from_T {H : Heap} (hw : H.WF) {p : Nat} {rs : List R3} {ws : List (Int × Int)} {mr mw mo : Int} {xr xw xo hq : Value} (h : LG H p rs ws mr mw xr xw xo hq mo) (a f : Int) (hl : rs.length ≤ 1000) :
    ∃ y H', T Try.prog 31 [ptr p, iv a, iv f] H y H' ∧ y = .bool (decide (0 ≤ rIdx a rs)) ∧ Lg H H' p xr xw (fromL rs a f) ws mr mw mo xo hq xr xw := by
  refine T_by hm light31 ?_
  have hnB := hw.next_ge
  have hpn := hw.lt h.bp
  obtain ⟨H1, hH1⟩ : ∃ H1, H1 = H.new 3 1 [iv a] := ⟨_, rfl⟩
  have w1 : H1.WF := by rw [hH1]; exact WF_new hw _ _ _
  have n1 : H1.next = H.next + 1 := by rw [hH1]; rfl
  have b1 : H1.base = H.base := by rw [hH1]; rfl
  have k1 : ∀ b, b < H.next → H1.blk b = H.blk b := fun b hb => by rw [hH1]; simp [show b ≠ H.next by omega]
  have hc1 : H1.blk H.next = some ⟨3, 1, [iv a]⟩ := by rw [hH1]; simp
  have hB1 : ¬ H.next < H1.B := by rw [B_eq b1]; exact hnB
  have h1 := h.keep hw b1 k1
  have l1 : H1.load ⟨p, 0, none⟩ = some xr := by rw [load_at h1.hp h1.bp]; rfl
  obtain ⟨v3, H3, T3, rfl, s3⟩ := find3_T w1 h1.rows (isAt a) (says_from3 w1 hB1 hc1 rs) (by simp; omega)
  have w3 := T3.grow.wf w1
  have b3 := T3.1.trans b1
  have n3 := T3.grow.next
  have k3 : ∀ b, b < H1.next → H3.blk b = H1.blk b := fun b hb => s3 b hb (by simp)
  have k3' : ∀ b, b < H.next → H3.blk b = H.blk b := fun b hb => (k3 b (by omega)).trans (k1 b hb)
  have h3 := h.keep hw b3 k3'
  have l31 : H3.load ⟨p, 0, none⟩ = some xr := by rw [load_at h3.hp h3.bp]; rfl
  have hg := fIdx_ge (isAt a) (rs.map row3)
  rw [List.length_map] at hg
  obtain ⟨i, hi⟩ : ∃ i, i = rIdx a rs := ⟨_, rfl⟩
  have hi' : fIdx (isAt a) (rs.map row3) = i := hi.symm
  rw [hi'] at hg T3
  have same3 : Lg H H3 p xr xw rs ws mr mw mo xo hq xr xw := ⟨h3, w3, b3, by omega, fun b hb _ _ _ => k3' b hb, fun b hb => .inl hb, fun b hb => .inl hb⟩
  obtain ⟨ll, hll⟩ : ∃ ll, ll = fromL rs a f := ⟨_, rfl⟩
  rw [← hll, ← hi]
  unfold fromL at hll
  rw [← hi] at hll
  simp [L31]
  rw [← hH1]
  simp [l1, isR0]
  refine goT_of T3 ?_
  by_cases h0 : 0 ≤ i
  · obtain ⟨j, rfl⟩ : ∃ j : Nat, i = j := ⟨i.toNat, by omega⟩
    have hj : j < rs.length := by omega
    rcases h3.ro.2 with ⟨_, h00⟩ | ⟨br, rest, hbr, hBr, hkr⟩
    · omega
    have hst : H3.store ⟨br, j * 3 + 2, none⟩ (iv f) = some (H3.put br (c3 (rs.set j (rs[j].1, rs[j].2.1, f)) ++ rest)) := by
      have hcl : (c3 rs).length = rs.length * 3 := h3.ro.1
      rw [store_own hBr hkr, if_pos (by rw [List.length_append]; omega), List.set_append_left _ _ (by omega), set3 rs j hj f]
    obtain ⟨H4, hH4⟩ : ∃ H4, H4 = H3.put br (c3 (rs.set j (rs[j].1, rs[j].2.1, f)) ++ rest) := ⟨_, rfl⟩
    rw [← hH4] at hst
    have pb : p ≠ br := fun e => h3.pr (by rw [hbr, e]; rfl)
    have hxr : blkOf xr = some br := by rw [hbr]; rfl
    have fin : Lg H H4 p xr xw (rs.set j (rs[j].1, rs[j].2.1, f)) ws mr mw mo xo hq xr xw := by
      refine ⟨⟨by rw [hH4]; simpa using h3.hp, by rw [hH4]; simp [pb, h3.bp], ?_, ?_, h3.pr, h3.pw, h3.rw⟩, by rw [hH4]; exact WF_put w3 _ _, by rw [hH4]; exact b3, by rw [hH4]; simp; omega, ?_, fun b hb => .inl hb, fun b hb => .inl hb⟩
      · refine ⟨by rw [← set3 rs j hj f, List.length_set, List.length_set]; exact h3.ro.1, .inr ⟨br, rest, by rw [List.length_set]; exact hbr, by rw [hH4]; simpa using hBr, by rw [hH4]; simp [hkr]⟩⟩
      · refine h3.wo.keep (by rw [hH4]; rfl) (fun b hb => ?_)
        have : b ≠ br := fun e => h3.rw br hxr (by rw [← e]; exact hb)
        rw [hH4]; simp [this]
      · intro b hb hp' hx hx2
        have : b ≠ br := fun e => hx (by rw [hxr, e])
        rw [hH4]; simp [this]
        exact k3' b hb
    have e1 : rs.getD j (0, 0, 0) = rs[j] := by simp [List.getD, hj]
    rw [if_pos h0, Int.toNat_natCast, e1] at hll
    subst hll
    rw [hbr] at l31
    simp [l31, hj, hst]
    exact fin
  · rw [if_neg h0] at hll
    subst hll
    simp [h0]
    exact same3
theorem lfrom_T {H : Heap} {lo hi p q : Nat} {ops : List Int} {mr mw mo : Int} {d : LD} {x : LX} (hw : H.WF) (s : LS H lo hi p q ops mr mw mo d x) (a f : Int) (hl : d.rs.length ≤ 1000) :
    ∃ H' x', T Try.prog 31 [ptr p, iv a, iv f] H (.bool (decide (0 ≤ rIdx a d.rs))) H' ∧ LS H' lo hi p q ops mr mw mo { d with rs := fromL d.rs a f } x' ∧ LA H H' lo hi p x x' := by
  obtain ⟨v, H', hT, rfl, l⟩ := from_T hw s.lg a f hl
  obtain ⟨s', a⟩ := s.turn hw l
  exact ⟨H', _, hT, s', a⟩
end Go.Proofs.Ytjpdoflmjokplaa
