/-
  Chapter 22: the document's From. Chapter 22: the document's Write.
-/
import Derived.Test.YtjpdoflmjokplaaSeatQ
namespace Go.Proofs.Ytjpdoflmjokplaa
open Go.Ot Go.RowKit
set_option linter.unusedSimpArgs false
set_option linter.unusedVariables false
theorem copy_in {H : Heap} (hw : H.WF) {ety sz n bytes : Nat} {cells : List Value} {x : Value} (h0 : 0 < sz) (hsrc : ∀ H' : Heap, H'.base = H.base → (∀ b, b < H.next → H'.blk b = H.blk b) → srcCells H' sz x = some (n, cells)) (hcl : cells.length = n * sz) (hb : n * bytes ≤ 140737488355328) :
    ∃ y1 H2, sAppend (H.new ety sz []) ety sz bytes (.slice (some ⟨H.next, 0, none⟩) 0 0) x = some (y1, H2) ∧ Row H H2 ety sz n cells y1 := by
  have hnB := hw.next_ge
  obtain ⟨H1, hH1⟩ : ∃ H1, H1 = H.new ety sz [] := ⟨_, rfl⟩
  have row1 : Row H H1 ety sz 0 [] (.slice (some ⟨H.next, 0, none⟩) 0 0) := by
    refine ⟨Own.mk (by simp) ?_ ?_, ?_, ?_, ?_, ?_, ?_⟩
    · rw [hH1]; simpa using hnB
    · rw [hH1]; simp
    · rw [hH1]; exact WF_new hw _ _ _
    · rw [hH1]; simp
    · rw [hH1]; simp
    · intro b hb; simp at hb; omega
    · intro b hb
      rw [hH1]
      simp [show b ≠ H.next by omega]
  have n1 : H1.next = H.next + 1 := by rw [hH1]; simp
  have s1 := hsrc H1 row1.base row1.keep
  rw [← hH1]
  by_cases hn : n = 0
  · subst hn
    have hc : cells = [] := List.length_eq_zero_iff.1 (by simpa using hcl)
    subst hc
    exact ⟨_, H1, append_none s1 (.inl rfl), row1⟩
  · have hle : (0 + n) * bytes ≤ 140737488355328 := by rw [Nat.zero_add]; exact hb
    refine ⟨_, _, append_any row1.own s1 hn hle, ?_⟩
    refine ⟨?_, WF_new (WF_drop row1.wf _) _ _ _, by simp [row1.base], by simp [n1]; omega, fun b hb => by simp at hb; omega, fun b hb => ?_⟩
    · rw [Nat.zero_add, List.nil_append]
      exact Own.mk hcl (by simp [B_eq row1.base, n1]; omega) (by simp)
    · have m1 : b ≠ H1.next := by omega
      have m2 : ¬ H.next = b := by omega
      simp [m1, blk_drop, m2, row1.keep b hb]
theorem Dv.part1 {H G : Heap} {d : DL} (D : Dv H G (dl d) z8) {ety sz n : Nat} {cells : List Value} {y : Value} {G2 : Heap} (r : Row G G2 ety sz n cells y) (j : Nat) (hj : j < 8) (d2 : DL) (hd : (dl d).set j y = dl d2) :
    ∃ G3, sStore G2 1 (.pointer (some ⟨H.next, j, none⟩)) y = some G3 ∧ Dv H G3 (dl d2) z8 ∧ Own G3 ety sz n cells y ∧ ∀ b, blkOf y = some b → H.next + 1 < b ∧ b < G3.next := by
  have D2 := D.on r.on
  obtain ⟨G3, st, D3⟩ := D2.set j y (by simpa [dl] using hj)
  rw [hd] at D3
  obtain ⟨a, hy⟩ := r.own.len
  have hrn := D.X.wf.lt D.r.bq
  have e3 : G3 = G2.put H.next ((dl d).set j y) := by
    have := D2.v.store j y (by simpa [dl] using hj)
    rw [this] at st
    exact (Option.some.inj st).symm
  refine ⟨G3, ?_, D3, ?_, ?_⟩
  · rw [hy] at st ⊢
    rw [sStore_slice]
    exact st
  · refine r.own.keep (B_eq (by rw [e3]; rfl)) (fun b hb => ?_)
    have := r.new b hb
    rw [e3]
    simp [show b ≠ H.next by omega]
  · intro b hb
    have h1 := r.new b hb
    have h2 := r.own.lt r.wf hb
    refine ⟨by omega, ?_⟩
    rw [e3]
    exact h2
/-- The answer; a row of one's own stands. -/
theorem Dv.fin1 {H G : Heap} {d2 : DL} (D : Dv H G (dl d2) z8) {ety sz n : Nat} {cells : List Value} {y : Value} (own : Own G ety sz n cells y) (hy : ∀ b, blkOf y = some b → H.next + 1 < b ∧ b < G.next) :
    ∃ G4, G.loadN ⟨H.next, 0, none⟩ 0 8 = some (dl d2) ∧ sStore G 8 (ptr (H.next + 1)) (dA d2) = some G4 ∧ G4.loadN ⟨H.next + 1, 0, none⟩ 0 8 = some (dl d2) ∧ Xt H G4 ∧ Own G4 ety sz n cells y ∧ ∀ b, blkOf y = some b → H.next ≤ b ∧ b < G4.next := by
  obtain ⟨G4, la, sa, lb, X4⟩ := D.fin (by simp [dl]) rfl
  have e4 : G4 = G.put (H.next + 1) (dl d2) := by
    have := D.r.storeA (m := 8) (by decide) (dl d2) rfl rfl
    rw [this] at sa
    exact (Option.some.inj sa).symm
  refine ⟨G4, la, sa, lb, X4, own.keep (B_eq (by rw [e4]; rfl)) (fun b hb => ?_), fun b hb => ⟨by have := hy b hb; omega, by rw [e4]; exact (hy b hb).2⟩⟩
  have := hy b hb
  rw [e4]
  simp [show b ≠ H.next + 1 by omega]
/-- One cell of a row of one's own. -/
theorem own_set {G : Heap} (hw : G.WF) {ety sz n : Nat} {cells : List Value} {y : Value} (own : Own G ety sz n cells y) {j : Nat} (hj : j < cells.length) (v : Value) :
    ∃ b G', y = .slice (some ⟨b, 0, none⟩) n 0 ∧ G.store ⟨b, j, none⟩ v = some G' ∧ Own G' ety sz n (cells.set j v) y ∧ G'.WF ∧ G'.base = G.base ∧ G'.next = G.next ∧ ∀ c, blkOf y ≠ some c → G'.blk c = G.blk c := by
  rcases own.2 with ⟨_, h0⟩ | ⟨b, rest, hy, hB, hk⟩
  · have := own.1
    rw [h0] at this
    omega
  · by_cases hsz : 0 < sz
    · refine ⟨b, G.put b (cells.set j v ++ rest), hy, ?_, ⟨by rw [List.length_set]; exact own.1, .inr ⟨b, rest, hy, hB, by simp [hk]⟩⟩, WF_put hw _ _, rfl, rfl, fun c hc => ?_⟩
      · rw [store_own hB hk hsz, if_pos (by simp; omega), List.set_append_left _ _ hj]
      · have : c ≠ b := fun e => hc (by rw [hy, e]; rfl)
        simp [this]
    · have := own.1
      have h0 : sz = 0 := by omega
      rw [h0] at this
      omega
theorem Dv.beside {H G G' : Heap} {cs rs : List Value} (D : Dv H G cs rs) {y : Value} (hy : ∀ b, blkOf y = some b → H.next + 1 < b) (hw : G'.WF) (hb : G'.base = G.base) (hn : G'.next = G.next) (hk : ∀ c, blkOf y ≠ some c → G'.blk c = G.blk c) : Dv H G' cs rs :=
  ⟨⟨hb.trans D.X.base, by rw [hn]; exact D.X.next, D.X.wf0, hw, fun b hb' => by rw [hk b (fun e => by have := hy b e; omega), D.X.old b hb']⟩, D.v.keep hb (hk _ (fun e => by have := hy _ e; omega)), D.r.keep hb (hk _ (fun e => by have := hy _ e; omega))⟩
theorem c3_len (l : List R3) : (c3 l).length = l.length * 3 := by
  induction l with
  | nil => rfl
  | cons a l ih => simp [c3, row3] at ih ⊢; omega
theorem rreadK {H : Heap} (hw : H.WF) (d : DL) {rs : List R3} (hx : Rws H 3 d.xr (rs.map row3)) (a : Int) (hl : rs.length ≤ 1000) : T Try.prog 39 [dA d, iv a] H (iv (rIdx a rs)) H := by
  obtain ⟨v, H', hT, rfl, hs⟩ := refRead_T hw d hx a hl
  exact T_forget hT (fun b hb => hs b hb (by simp)) rfl
theorem rwrittenK {H : Heap} (hw : H.WF) (d : DL) {ws : List (Int × Int)} (hx : Rws H 2 d.xw (ws.map row2)) (a : Int) (hl : ws.length ≤ 1000) : T Try.prog 41 [dA d, iv a] H (iv (wIdx a ws)) H := by
  obtain ⟨v, H', hT, rfl, hs⟩ := refWritten_T hw d hx a hl
  exact T_forget hT (fun b hb => hs b hb (by simp)) rfl
theorem refFrom_T {H : Heap} (hw : H.WF) (d : DL) {rs : List R3} (hx : Rws H 3 d.xr (rs.map row3)) (a f : Int) (hl : rs.length ≤ 1000) :
    ∃ v H', T Try.prog 30 [dA d, iv a, iv f] H v H' ∧ ∃ d2, v = .tuple #[dA d2, .bool (decide (0 ≤ rIdx a rs))] ∧ Xt H H' ∧ Rws H' 3 d2.xr ((fromL rs a f).map row3) ∧ d2 = { d with xr := d2.xr } ∧ ∀ b, blkOf d2.xr = some b → blkOf d.xr = some b ∨ (H.next ≤ b ∧ b < H'.next) := by
  refine T_by hm light30 ?_
  have D := dv_new hw (dl d)
  obtain ⟨HD, hHD⟩ : ∃ HD, HD = (H.new 44 8 (dl d)).new 44 8 z8 := ⟨_, rfl⟩
  rw [← hHD] at D
  have hN : (H.new 44 8 (dl d)).new 44 8 [.int .i64 0, .int .i64 0, .int .i64 0, .slice none 0 0, .slice none 0 0, .slice none 0 0, .slice none 0 0, .slice none 0 0] = HD := hHD.symm
  have hxD := D.X.rws hx
  have hT := rreadK D.X.wf d hxD a hl
  have laD : HD.loadN ⟨H.next, 0, none⟩ 0 8 = some (dl d) := D.v.loadA (by simp [dl])
  have l4 : HD.load ⟨H.next, 4, none⟩ = some d.xr := D.v.load 4
  obtain ⟨i, hi⟩ : ∃ i, i = rIdx a rs := ⟨_, rfl⟩
  have hg := fIdx_ge (isAt a) (rs.map row3)
  rw [List.length_map] at hg
  have hi' : fIdx (isAt a) (rs.map row3) = i := hi.symm
  rw [hi'] at hg
  rw [← hi] at hT ⊢
  obtain ⟨d0, hd0⟩ : ∃ d0, d0 = dl d := ⟨_, rfl⟩
  have hda : dA d = .agg d0.toArray := by rw [hd0]
  have hd8 : d0.length = 8 := by rw [hd0]; rfl
  rw [hda] at hT ⊢
  rw [← hd0] at hN laD
  by_cases h0 : 0 ≤ i
  · have hn0 : ¬ i < 0 := by omega
    obtain ⟨j, rfl⟩ : ∃ j : Nat, i = j := ⟨i.toNat, by omega⟩
    have hj : j < rs.length := by omega
    obtain ⟨y1, H2, ap, row⟩ := copy_in (ety := 78) (sz := 3) (bytes := 24) (n := rs.length) (cells := c3 rs) (x := d.xr) D.X.wf (by decide) (fun H' hb hk => by
      have := rws_src (by intro r hr; obtain ⟨q, _, rfl⟩ := List.mem_map.1 hr; rfl) (hxD.keep D.X.wf hb hk)
      rw [List.length_map] at this
      exact this) (c3_len rs) (by omega)
    obtain ⟨d2, hd2⟩ : ∃ d2 : DL, d2 = { d with xr := y1 } := ⟨_, rfl⟩
    obtain ⟨G3, st, D3, own3, yb3⟩ := D.part1 row 4 (by decide) d2 (by rw [hd2]; rfl)
    have l43 : G3.load ⟨H.next, 4, none⟩ = some y1 := by
      have := D3.v.load 4
      rw [hd2] at this
      exact this
    obtain ⟨b, G4, hy1, st4, own4, w4, b4, n4, k4⟩ := own_set D3.X.wf own3 (j := j * 3 + 2) (by rw [c3_len]; omega) (iv f)
    rw [set3 rs j hj f] at own4
    have D4 := D3.beside (fun b hb => (yb3 b hb).1) w4 b4 n4 k4
    obtain ⟨G5, la, sa, lb, X5, own5, yb5⟩ := D4.fin1 own4 (fun b hb => ⟨(yb3 b hb).1, by rw [n4]; exact (yb3 b hb).2⟩)
    have hz0 : zerosA [iv 0, iv 0, iv 0] 0 = [] := rfl
    obtain ⟨ai, ci', hxi⟩ := hx.len
    rw [List.length_map] at hxi
    have l4' : (HD.new 78 3 []).load ⟨H.next, 4, none⟩ = some d.xr := load_newN D.X.wf l4 _ _ _
    obtain ⟨ds, hds⟩ : ∃ ds, ds = dl d2 := ⟨_, rfl⟩
    rw [← hds] at la lb
    have hda2 : dA d2 = .agg ds.toArray := by rw [hds]
    rw [hda2] at sa
    have hd28 : ds.length = 8 := by rw [hds]; rfl
    have hnt : notTup y1 = true := by rw [hy1]; rfl
    rw [hxi] at l4 l4' ap
    rw [hy1] at l43 st
    have hcx : (Value.slice (some ⟨b, 0, none⟩) rs.length 0).cells.size = 1 := rfl
    have hfl : fromL rs a f = rs.set j (rs[j].1, rs[j].2.1, f) := by
      unfold fromL
      rw [← hi, if_pos h0, Int.toNat_natCast]
      simp [List.getD, hj]
    rw [hy1] at ap
    simp [L30, hN, laD, hd8]
    refine goT_of hT ?_
    simp [hz0, l4, l4', ap, st, l43, hj, st4, la, sa, lb]
    refine ⟨d2, hds, X5, ?_, by rw [hd2], ?_⟩
    · rw [hfl, hd2]
      refine Own.rws (ety := 78) (by intro r hr; obtain ⟨q, _, rfl⟩ := List.mem_map.1 hr; rfl) ?_
      rw [List.length_map, List.length_set]
      exact own5
    · rw [hd2]
      intro b hb
      exact .inr (yb5 b hb)
  · have hn0 : i < 0 := by omega
    obtain ⟨G, la, sa, lb, X⟩ := D.fin (by simp [dl]) rfl
    rw [← hd0] at la sa lb
    have hfl : fromL rs a f = rs := by unfold fromL; rw [← hi, if_neg h0]
    rw [hfl]
    simp [L30, hN, laD, hd8]
    refine goT_of hT ?_
    simp [hn0, la, sa, lb, laD]
    exact ⟨d, hd0, X, X.rws hx, rfl, fun b hb => .inl hb⟩
end Go.Proofs.Ytjpdoflmjokplaa
namespace Go.Proofs.Ytjpdoflmjokplaa
open Go.Ot Go.RowKit
set_option linter.unusedSimpArgs false
set_option linter.unusedVariables false
theorem Row.set1 {H H2 : Heap} {ety sz n : Nat} {cells : List Value} {y : Value} (r : Row H H2 ety sz n cells y) {j : Nat} (hj : j < cells.length) (v : Value) :
    ∃ b H3, y = .slice (some ⟨b, 0, none⟩) n 0 ∧ H2.store ⟨b, j, none⟩ v = some H3 ∧ Row H H3 ety sz n (cells.set j v) y := by
  obtain ⟨b, H3, hy, st, own, w, hb, hn, hk⟩ := own_set r.wf r.own hj v
  exact ⟨b, H3, hy, st, own, w, hb.trans r.base, by rw [hn]; exact r.next, r.new, fun c hc => by rw [hk c (fun e => by have := r.new c e; omega), r.keep c hc]⟩
theorem refWrite_T {H : Heap} (hw : H.WF) (d : DL) {ws : List (Int × Int)} (hx : Rws H 2 d.xw (ws.map row2)) (a v : Int) (hl : ws.length ≤ 1000) :
    ∃ y H', T Try.prog 32 [dA d, iv a, iv v] H y H' ∧ ∃ d2, y = .tuple #[dA d2, iv (writeC ws a d.mw)] ∧ Xt H H' ∧ Rws H' 2 d2.xw ((writeL ws a v d.mw).map row2) ∧ d2 = { d with xw := d2.xw } ∧ ∀ b, blkOf d2.xw = some b → blkOf d.xw = some b ∨ (H.next ≤ b ∧ b < H'.next) := by
  refine T_by hm light32 ?_
  have D := dv_new hw (dl d)
  obtain ⟨HD, hHD⟩ : ∃ HD, HD = (H.new 44 8 (dl d)).new 44 8 z8 := ⟨_, rfl⟩
  rw [← hHD] at D
  have hN : (H.new 44 8 (dl d)).new 44 8 [.int .i64 0, .int .i64 0, .int .i64 0, .slice none 0 0, .slice none 0 0, .slice none 0 0, .slice none 0 0, .slice none 0 0] = HD := hHD.symm
  have hxD := D.X.rws hx
  have hT := rwrittenK D.X.wf d hxD a hl
  have laD : HD.loadN ⟨H.next, 0, none⟩ 0 8 = some (dl d) := D.v.loadA (by simp [dl])
  have l5 : HD.load ⟨H.next, 5, none⟩ = some d.xw := D.v.load 5
  have l1 : HD.load ⟨H.next, 1, none⟩ = some (iv d.mw) := D.v.load 1
  obtain ⟨i, hi⟩ : ∃ i, i = wIdx a ws := ⟨_, rfl⟩
  have hg := fIdx_ge (isAt a) (ws.map row2)
  rw [List.length_map] at hg
  have hi' : fIdx (isAt a) (ws.map row2) = i := hi.symm
  rw [hi'] at hg
  obtain ⟨cc, hcc⟩ : ∃ cc, cc = writeC ws a d.mw := ⟨_, rfl⟩
  obtain ⟨ll, hll⟩ : ∃ ll, ll = writeL ws a v d.mw := ⟨_, rfl⟩
  rw [← hcc, ← hll]
  unfold writeC at hcc
  unfold writeL at hll
  rw [← hi] at hT hcc hll
  obtain ⟨d0, hd0⟩ : ∃ d0, d0 = dl d := ⟨_, rfl⟩
  have hda : dA d = .agg d0.toArray := by rw [hd0]
  have hd8 : d0.length = 8 := by rw [hd0]; rfl
  rw [hda] at hT ⊢
  rw [← hd0] at hN laD
  obtain ⟨ai, ci', hxi⟩ := hx.len
  rw [List.length_map] at hxi
  have hz0 : zerosA [iv 0, iv 0] 0 = [] := rfl
  have hz2 : zerosA [iv 0, iv 0] 2 = [iv 0, iv 0] := rfl
  have l5' : (HD.new 92 2 []).load ⟨H.next, 5, none⟩ = some d.xw := load_newN D.X.wf l5 _ _ _
  have hsrc : ∀ H' : Heap, H'.base = HD.base → (∀ b, b < HD.next → H'.blk b = HD.blk b) → srcCells H' 2 d.xw = some (ws.length, c2 ws) := fun H' hb hk => by
    have := rws_src (by intro r hr; obtain ⟨q, _, rfl⟩ := List.mem_map.1 hr; rfl) (hxD.keep D.X.wf hb hk)
    rw [List.length_map] at this
    exact this
  by_cases h0 : 0 ≤ i
  · have hn0 : ¬ i < 0 := by omega
    obtain ⟨j, rfl⟩ : ∃ j : Nat, i = j := ⟨i.toNat, by omega⟩
    have hj : j < ws.length := by omega
    obtain ⟨y1, H2, ap, row⟩ := copy_in (ety := 92) (sz := 2) (bytes := 16) (n := ws.length) (cells := c2 ws) (x := d.xw) D.X.wf (by decide) hsrc (row2_len ws) (by omega)
    obtain ⟨b, H3, hy1, st3, row3⟩ := row.set1 (j := j * 2 + 1) (by rw [row2_len]; omega) (iv v)
    rw [set2 ws j hj v] at row3
    obtain ⟨d2, hd2⟩ : ∃ d2 : DL, d2 = { d with xw := y1 } := ⟨_, rfl⟩
    obtain ⟨G3, G4, st, la, sa, lb, X4, own4, yb⟩ := D.part row3 5 (by decide) d2 (by rw [hd2]; rfl)
    obtain ⟨ds, hds⟩ : ∃ ds, ds = dl d2 := ⟨_, rfl⟩
    rw [← hds] at la lb
    have hda2 : dA d2 = .agg ds.toArray := by rw [hds]
    rw [hda2] at sa
    have e1 : ws.getD j (0, 0) = ws[j] := by simp [List.getD, hj]
    rw [if_pos h0] at hcc hll
    rw [Int.toNat_natCast, e1] at hll
    subst hcc
    rw [hxi] at l5 l5' ap
    rw [hy1] at ap st
    simp [L32, hN, laD, hd8]
    refine goT_of hT ?_
    simp [hz0, l5, l5', ap, hj, st3, st, la, sa, lb]
    refine ⟨d2, hds, X4, ?_, by rw [hd2], ?_⟩
    · rw [hll, hd2]
      refine Own.rws (ety := 92) (by intro r hr; obtain ⟨q, _, rfl⟩ := List.mem_map.1 hr; rfl) ?_
      rw [List.length_map, List.length_set]
      exact own4
    · rw [hd2]
      intro b hb
      exact .inr (yb b hb)
  · have hn0 : i < 0 := by omega
    by_cases hf : (ws.length : Int) = d.mw
    · have hb : ((ws.length : Int) == d.mw) = true := by simpa using hf
      obtain ⟨G, la, sa, lb, X⟩ := D.fin (by simp [dl]) rfl
      rw [← hd0] at la sa lb
      rw [if_neg h0, if_pos hf] at hcc hll
      subst hcc hll
      rw [hxi] at l5
      simp [L32, hN, laD, hd8]
      refine goT_of hT ?_
      simp [hn0, l5, l1, hb, la, sa, lb, laD]
      exact ⟨d, hd0, X, X.rws hx, rfl, fun b hb => .inl hb⟩
    · have hb : ((ws.length : Int) == d.mw) = false := by simpa using hf
      rw [if_neg h0, if_neg hf] at hcc hll
      subst hcc hll
      obtain ⟨y1, H2, y2, H3, ap1, hlt, on2, ap2, row⟩ := grow_row (ety := 92) (sz := 2) (bytes := 16) (n := ws.length) (cells := c2 ws) (row := row2 (a, v)) (x := d.xw) D.X.wf (by decide) hsrc (row2_len ws) rfl (by omega)
      obtain ⟨d2, hd2⟩ : ∃ d2 : DL, d2 = { d with xw := y2 } := ⟨_, rfl⟩
      obtain ⟨G3, G4, st, la, sa, lb, X4, own4, yb⟩ := D.part row 5 (by decide) d2 (by rw [hd2]; rfl)
      obtain ⟨ds, hds⟩ : ∃ ds, ds = dl d2 := ⟨_, rfl⟩
      rw [← hds] at la lb
      have hda2 : dA d2 = .agg ds.toArray := by rw [hds]
      rw [hda2] at sa
      have hnt : notTup y2 = true := by
        obtain ⟨a2, hy2⟩ := row.own.len
        rw [hy2]; rfl
      rw [hxi] at l5 l5' ap1
      simp only [row2] at ap2
      simp [L32, hN, laD, hd8]
      refine goT_of hT ?_
      simp [hn0, l5, l1, hb, hz0, hz2, l5', ap1, ap2, st, hnt, la, sa, lb]
      refine ⟨d2, hds, X4, ?_, by rw [hd2], ?_⟩
      · rw [hd2, show List.map row2 ws ++ [row2 (a, v)] = (ws ++ [(a, v)]).map row2 by simp]
        refine Own.rws (ety := 92) (by intro r hr; obtain ⟨q, _, rfl⟩ := List.mem_map.1 hr; rfl) ?_
        have q1 : ((ws ++ [(a, v)]).map row2).flatten = c2 ws ++ row2 (a, v) := by simp [c2]
        rw [q1]
        have h1 : ((ws ++ [(a, v)]).map row2).length = ws.length + 1 := by simp
        rw [h1]
        exact own4
      · rw [hd2]
        intro b hb
        exact .inr (yb b hb)
end Go.Proofs.Ytjpdoflmjokplaa
