/-
  The document's arena: what its functions do, for every heap in which a list of the free ones stands.
-/
import Derived.Test.YtfddocdhjjnajaaSeatC
namespace Go.Proofs.Ytfddocdhjjnajaa
open Go.Ot
set_option linter.unusedSimpArgs false
set_option linter.unusedVariables false
/-- A row of numbers of its own. -/
structure LR (H : Heap) (rb : Nat) (xs : List Int) : Prop where
  hB : ¬ rb < H.B
  bk : H.blk rb = some ⟨3, 1, xs.map (.int .i64)⟩
abbrev ag (n : Int) (rb k : Nat) : Value := .agg #[.int .i64 n, sl rb k]
theorem takeR_nil {H : Heap} (hw : H.WF) {n : Int} {rb : Nat} : ∃ v H', T Try.prog 14 [ag n rb 0] H v H' ∧ v = .tuple #[ag n rb 0, .int .i64 0, .int .i64 200] ∧ Same H H' [] := by
  refine T_by hm light14 ?_
  have hnB := hw.next_ge
  have n1 : ¬ H.next + 1 < H.B := by omega
  simp [L14, Heap.load, Heap.loadN, Heap.store, Heap.storeN, add_own, hnB, n1, sStore_agg]
  intro b hb _
  have m1 : b ≠ H.next := by omega
  have m2 : b ≠ H.next + 1 := by omega
  simp [m1, m2]
theorem takeR_cons {H : Heap} (hw : H.WF) {n s : Int} {rb : Nat} {xs : List Int} (h : LR H rb (s :: xs)) (hl : xs.length < 1000) :
    ∃ v H', T Try.prog 14 [ag n rb (xs.length + 1)] H v H' ∧ ∃ rb', v = .tuple #[ag n rb' xs.length, .int .i64 s, .int .i64 0] ∧ LR H' rb' xs ∧ H.next ≤ rb' ∧ Same H H' [] := by
  refine T_by hm light14 ?_
  have hnB := hw.next_ge
  have n1 : ¬ H.next + 1 < H.B := by omega
  have n2 : ¬ H.next + 2 < H.B := by omega
  have n3 : ¬ H.next + 3 < H.B := by omega
  have rn := hw.lt h.bk
  have m0 : rb ≠ H.next := by omega
  have m1 : rb ≠ H.next + 1 := by omega
  have m2 : rb ≠ H.next + 2 := by omega
  have hne : ¬ ((xs.length : Int) + 1 = 0) := by omega
  have hge : (0 : Int) ≤ (xs.length : Int) + 1 := by omega
  have hge1 : (1 : Int) ≤ (xs.length : Int) + 1 := by omega
  have hlt : (0 : Int) < (xs.length : Int) + 1 := by omega
  obtain ⟨HC, hHC⟩ : ∃ HC, HC = (((H.new 36 2 [.int .i64 n, sl rb (xs.length + 1)]).new 36 2 [.int .i64 0, .slice none 0 0]).new 3 1 []) := ⟨_, rfl⟩
  have hk : HC.blk rb = some ⟨3, 1, (s :: xs).map (.int .i64)⟩ := by simp [hHC, h.bk, m0, m1, m2, Nat.add_assoc]
  have src := src_at (off := 1) (m := xs.length) (c := 2) (by rw [hHC]; exact h.hB) hk (by simp; omega)
  have src : srcCells HC 1 (.slice (some ⟨rb, 1, none⟩) xs.length 2) = some (xs.length, xs.map (.int .i64)) := by rw [src]; simp [List.take_of_length_le]
  obtain ⟨rb', H2, hap, b2, hrb, base2, same2⟩ := append_copy (ety := 3) (bytes := 8) (eb := H.next + 2) (by simp [hHC]) src (by simp) (by omega)
  have B2 : H2.B = H.B := by rw [B_eq base2, hHC]; rfl
  have nx : HC.next = H.next + 3 := by simp [hHC]
  rw [nx] at hrb same2
  have k0 : H2.blk H.next = some ⟨36, 2, [.int .i64 n, sl rb (xs.length + 1)]⟩ := by rw [same2 _ (by omega) (by omega), hHC]; simp [Nat.add_assoc]
  have k1 : H2.blk (H.next + 1) = some ⟨36, 2, [.int .i64 0, .slice none 0 0]⟩ := by rw [same2 _ (by omega) (by omega), hHC]; simp [Nat.add_assoc]
  rw [hHC] at hap
  simp [L14, Heap.load, Heap.loadN, Heap.store, Heap.storeN, add_own, hnB, n1, n2, sStore_agg, hne, hge, hge1, hlt, m0, m1, m2, h.hB, h.bk, Nat.add_assoc, hap, B2, k0, k1]
  refine ⟨by omega, ⟨by simp [B2]; omega, ?_⟩, by omega, ?_⟩
  · have r0 : rb' ≠ H.next := by omega
    have r1 : rb' ≠ H.next + 1 := by omega
    simp [r0, r1, b2]
  · intro b hb _
    have m3 : b ≠ H.next := by omega
    have m4 : b ≠ H.next + 1 := by omega
    have m5 : b ≠ H.next + 2 := by omega
    simp [m3, m4, same2 b m5 (by omega), hHC, Nat.add_assoc, m5]
def InvF (HC : Heap) (q : Nat) (s : Int) (xs : List Int) (k : Nat) (t : Tm) (H1 : Heap) : Prop :=
  ∃ pre rest, xs = pre ++ rest ∧ rest.length = k ∧ s ∉ pre ∧ t 1 = .int .i64 s ∧ t 2 = ptr q ∧ t 5 = .int .i64 pre.length ∧ H1 = HC
theorem freeR_T {H : Heap} (hw : H.WF) {n s : Int} {rb : Nat} {xs : List Int} (h : LR H rb xs) (hl : xs.length < 1000) :
    ∃ v H', T Try.prog 17 [ag n rb xs.length, .int .i64 s] H v H' ∧ v = .bool (xs.contains s) ∧ Same H H' [] := by
  refine T_by hm light17 ?_
  have hnB := hw.next_ge
  have rn := hw.lt h.bk
  have m0 : rb ≠ H.next := by omega
  simp [L17]
  obtain ⟨HC, hHC⟩ : ∃ HC, HC = H.new 36 2 [.int .i64 n, sl rb xs.length] := ⟨_, rfl⟩
  rw [← hHC]
  have lq : ∀ off, HC.load ⟨H.next, off, none⟩ = [Value.int .i64 n, sl rb xs.length][off]? := fun off => by rw [hHC]; exact load_at (k := ⟨36, 2, _⟩) hnB (by simp)
  have lr : ∀ off, HC.load ⟨rb, off, none⟩ = (xs.map (Value.int .i64))[off]? := fun off => by rw [hHC]; exact load_at (k := ⟨3, 1, _⟩) h.hB (by simp [m0, h.bk])
  have hsame : Same H HC [] := by
    intro b hb _
    have m3 : b ≠ H.next := by omega
    simp [hHC, m3]
  refine loop_at (InvF HC H.next s xs) xs.length ?_ ?_
  · exact ⟨[], xs, rfl, rfl, by simp, by simp, by simp, by simp, rfl⟩
  · rintro k t H1 ⟨pre, rest, rfl, hk, hpre, t1, t2, t5, rfl⟩
    cases rest with
    | nil =>
      simp at lq lr
      simp [L17_1, t1, t2, t5, lq, hpre, hsame]
    | cons r rest =>
      have hlt : (pre.length : Int) < ((pre ++ r :: rest).length : Int) := by simp; omega
      have e9 : IntKind.i64.wrap ((pre.length : Int) + 1) = ((pre ++ [r]).length : Int) := by rw [w64 _ (by simp at hl; omega)]; simp
      have lr' : H1.load ⟨rb, pre.length, none⟩ = some (.int .i64 r) := by rw [lr]; simp
      have lq' : H1.load ⟨H.next, 1, none⟩ = some (sl rb (pre ++ r :: rest).length) := by rw [lq]; rfl
      by_cases hr : r = s
      · subst hr
        simp [L17_1, t1, t2, t5, lq', lr', hsame, -List.length_append, hlt]
      · simp [L17_1, t1, t2, t5, lq', lr', hr, -List.length_append, hlt, e9]
        refine ⟨rest.length, by simp at hk; omega, pre ++ [r], rest, by simp, rfl, by simp [hpre]; exact fun h => hr h.symm, by simp [t1], by simp [t2], by simp, rfl⟩
theorem backR_T {H : Heap} (hw : H.WF) {n s : Int} {rb : Nat} {xs : List Int} (h : LR H rb xs) (hl : xs.length < 1000) :
    ∃ v H', T Try.prog 15 [ag n rb xs.length, .int .i64 s] H v H' ∧ (if s < 0 ∨ n ≤ s ∨ s ∈ xs then v = .tuple #[ag n rb xs.length, .int .i64 201] ∧ Same H H' []
      else ∃ rb', v = .tuple #[ag n rb' (xs.length + 1), .int .i64 0] ∧ LR H' rb' (s :: xs) ∧ H.next ≤ rb' ∧ Same H H' []) := by
  refine T_by hm light15 ?_
  have hnB := hw.next_ge
  have rn := hw.lt h.bk
  have m0 : rb ≠ H.next := by omega
  have m1 : rb ≠ H.next + 1 := by omega
  have n1 : ¬ H.next + 1 < H.B := by omega
  by_cases h0 : s < 0
  · simp [L15, h0, Heap.load, Heap.loadN, Heap.store, Heap.storeN, add_own, hnB, n1, sStore_agg]
    intro b hb _
    have m3 : b ≠ H.next := by omega
    have m4 : b ≠ H.next + 1 := by omega
    simp [m3, m4]
  have h0' : 0 ≤ s := by omega
  by_cases h1 : n ≤ s
  · simp [L15, h0, h1, Heap.load, Heap.loadN, Heap.store, Heap.storeN, add_own, hnB, n1, sStore_agg]
    intro b hb _
    have m3 : b ≠ H.next := by omega
    have m4 : b ≠ H.next + 1 := by omega
    simp [m3, m4]
  obtain ⟨HC, hHC⟩ : ∃ HC, HC = (H.new 36 2 [.int .i64 n, sl rb xs.length]).new 36 2 [.int .i64 0, .slice none 0 0] := ⟨_, rfl⟩
  have wC : HC.WF := by rw [hHC]; exact WF_new (WF_new hw _ _ _) _ _ _
  have LC : LR HC rb xs := ⟨by rw [hHC]; exact h.hB, by rw [hHC]; simp [m0, m1, h.bk, Nat.add_assoc]⟩
  have nC : HC.next = H.next + 2 := by rw [hHC]; simp
  have BC : HC.B = H.B := by rw [hHC]; rfl
  obtain ⟨v3, H3, T3, rfl, S3⟩ := freeR_T wC (n := n) (s := s) LC hl
  have B3 : H3.B = H.B := T3.B.trans BC
  have w3 := T3.grow.wf wC
  have nx3 := T3.grow.next
  have k0 : H3.blk H.next = some ⟨36, 2, [.int .i64 n, sl rb xs.length]⟩ := by rw [S3 _ (by omega) (by simp), hHC]; simp
  have k1 : H3.blk (H.next + 1) = some ⟨36, 2, [.int .i64 0, .slice none 0 0]⟩ := by rw [S3 _ (by omega) (by simp), hHC]; simp
  have kr : H3.blk rb = some ⟨3, 1, xs.map (.int .i64)⟩ := by rw [S3 _ (by omega) (by simp)]; exact LC.bk
  have kold : ∀ b, b < H.next → H3.blk b = H.blk b := by
    intro b hb
    have m3 : b ≠ H.next := by omega
    have m4 : b ≠ H.next + 1 := by omega
    rw [S3 _ (by omega) (by simp), hHC]; simp [m3, m4, Nat.add_assoc]
  by_cases hin : s ∈ xs
  · simp [L15, h0, h1, Heap.load, Heap.loadN, Heap.store, Heap.storeN, add_own, hnB, n1, sStore_agg]
    rw [← hHC]
    refine goT_of T3 ?_
    simp [hin, h0, Heap.load, Heap.loadN, Heap.store, Heap.storeN, add_own, hnB, n1, sStore_agg, B3, k0, k1]
    intro b hb _
    have m3 : b ≠ H.next := by omega
    have m4 : b ≠ H.next + 1 := by omega
    simp [m3, m4, kold b hb]
  · simp [L15, h0, h1, hin, Heap.load, Heap.loadN, Heap.store, Heap.storeN, add_own, hnB, n1, sStore_agg]
    rw [← hHC]
    refine goT_of T3 ?_
    obtain ⟨H4, hH4⟩ : ∃ H4, H4 = H3.new 3 1 [.int .i64 s] := ⟨_, rfl⟩
    have src := src_at (H := H4) (b := rb) (off := 0) (m := xs.length) (c := 0) (ety := 3) (n := 1) (cs := xs.map (.int .i64)) (by rw [hH4]; simpa [B3] using h.hB) (by rw [hH4]; simp [kr, show rb ≠ H3.next by omega]) (by simp)
    have src : srcCells H4 1 (.slice (some ⟨rb, 0, none⟩) xs.length 0) = some (xs.length, xs.map (.int .i64)) := by rw [src]; simp [List.take_of_length_le]
    obtain ⟨rb', H5, hap, b5, hrb, base5, n5, n5', same5⟩ := append_rows (ety := 3) (bytes := 8) (eb := H3.next) (n := 1) (cs := [.int .i64 s]) (by simp [hH4]) rfl src (by simp) (by omega)
    have B5 : H5.B = H.B := by rw [B_eq base5, hH4]; exact B3
    have nx4 : H4.next = H3.next + 1 := by rw [hH4]; rfl
    have j0 : H5.blk H.next = some ⟨36, 2, [.int .i64 n, sl rb xs.length]⟩ := by rw [same5 _ (by omega) (by omega), hH4]; simp [k0, show H.next ≠ H3.next by omega]
    have j1 : H5.blk (H.next + 1) = some ⟨36, 2, [.int .i64 0, .slice none 0 0]⟩ := by rw [same5 _ (by omega) (by omega), hH4]; simp [k1, show H.next + 1 ≠ H3.next by omega]
    have c0 : H.next ≠ H3.next := by omega
    rw [hH4] at hap
    simp [hin, h0, Heap.load, Heap.loadN, Heap.store, Heap.storeN, add_own, hnB, n1, sStore_agg, B3, k0, k1, zerosA, c0, hap, B5, j0, j1]
    have r1 : rb' ≠ H.next := by omega
    have r2 : rb' ≠ H.next + 1 := by omega
    refine ⟨by omega, rb', ⟨rfl, by omega⟩, ⟨by simp [B5]; omega, by simp [r1, r2, b5]⟩, by omega, ?_⟩
    intro b hb _
    have m3 : b ≠ H.next := by omega
    have m4 : b ≠ H.next + 1 := by omega
    have m5 : b ≠ H3.next := by omega
    simp [m3, m4, same5 b m5 (by omega), hH4, m5, kold b hb]
theorem newR_bad {H : Heap} (hw : H.WF) {n : Int} (hn : n < 1 ∨ 512 < n) : ∃ v H', T Try.prog 13 [.int .i64 n] H v H' ∧ v = .tuple #[.agg #[.int .i64 0, .slice none 0 0], .int .i64 161] ∧ Same H H' [] := by
  refine T_by hm light13 ?_
  have hnB := hw.next_ge
  by_cases h1 : n < 1
  · simp [L13, h1, Heap.load, Heap.loadN, Heap.store, Heap.storeN, add_own, hnB, sStore_agg]
    intro b hb _
    have m3 : b ≠ H.next := by omega
    simp [m3]
  · have h2 : 512 < n := by omega
    simp [L13, h1, h2, Heap.load, Heap.loadN, Heap.store, Heap.storeN, add_own, hnB, sStore_agg]
    intro b hb _
    have m3 : b ≠ H.next := by omega
    simp [m3]
def upTo (i : Nat) : List Int := (List.range i).map (fun (k : Nat) => (k : Int))
theorem upTo_len (i : Nat) : (upTo i).length = i := by simp [upTo]
theorem upTo_succ (i : Nat) : upTo (i + 1) = upTo i ++ [(i : Int)] := by simp [upTo, List.range_succ]
def InvR (H : Heap) (n : Nat) (k : Nat) (t : Tm) (H1 : Heap) : Prop :=
  ∃ x i, i + k = n ∧ t 0 = .int .i64 n ∧ t 2 = ptr H.next ∧ t 4 = ptr (H.next + 1) ∧ t 5 = .int .i64 (i : Nat) ∧ H1.B = H.B ∧ H.next + 2 ≤ H1.next ∧ H1.WF ∧ H1.blk H.next = some ⟨36, 2, [.int .i64 0, .slice none 0 0]⟩ ∧ H1.blk (H.next + 1) = some ⟨36, 2, [.int .i64 n, x]⟩ ∧
    Own H1 3 1 i ((upTo i).map (.int .i64)) x ∧ (∀ b, blkOf x = some b → H.next + 2 ≤ b ∧ ∃ cs, H1.blk b = some ⟨3, 1, cs⟩ ∧ cs.length = i) ∧ ∀ b, b < H.next → H1.blk b = H.blk b
theorem newR_T {H : Heap} (hw : H.WF) {n : Nat} (hn : 1 ≤ n ∧ n ≤ 512) :
    ∃ v H', T Try.prog 13 [.int .i64 n] H v H' ∧ ∃ rb, v = .tuple #[ag n rb n, .int .i64 0] ∧ LR H' rb (upTo n) ∧ H.next ≤ rb ∧ Same H H' [] := by
  refine T_by hm light13 ?_
  have hnB := hw.next_ge
  have n1 : ¬ H.next + 1 < H.B := by omega
  have h1 : ¬ (n : Int) < 1 := by omega
  have h2 : ¬ 512 < (n : Int) := by omega
  simp [L13, h1, h2, Heap.load, Heap.loadN, Heap.store, Heap.storeN, add_own, hnB, n1, sStore_agg]
  refine loop_at (InvR H n) n ?_ ?_
  · refine ⟨.slice none 0 0, 0, by omega, by simp, by simp, by simp, by simp, by simp, by simp, WF_put (WF_put (WF_new (WF_new hw _ _ _) _ _ _) _ _) _ _, by simp, by simp, Own.nil _ _ _, by simp, ?_⟩
    intro b hb
    have m1 : b ≠ H.next := by omega
    have m2 : b ≠ H.next + 1 := by omega
    simp [m1, m2]
  · rintro k t H1 ⟨x, i, hik, t0, t2, t4, t5, hB, hnx, hw1, b0, b1, hx, hxb, hold⟩
    have np : ¬ H.next + 1 < H1.B := by rw [hB]; omega
    have np0 : ¬ H.next < H1.B := by rw [hB]; omega
    have nB := hw1.next_ge
    cases k with
    | zero =>
      have e0 : i = n := by omega
      subst e0
      simp [L13_1, t0, t2, t4, t5, Heap.load, Heap.loadN, Heap.store, Heap.storeN, add_own, np, np0, b0, b1, sStore_agg]
      rcases hx.2 with ⟨_, h0⟩ | ⟨b, rest, rfl, hb1, hb2⟩
      · omega
      · obtain ⟨hbn, cs, hcs, hcl⟩ := hxb b rfl
        rw [hb2] at hcs
        have hr : rest = [] := by
          have hcs' : (upTo i).map (Value.int .i64) ++ rest = cs := by simpa using hcs
          rw [← hcs'] at hcl
          simpa [upTo_len] using hcl
        subst hr
        have r0 : b ≠ H.next := by omega
        refine ⟨b, rfl, ⟨by simpa using hb1, by simpa [r0] using hb2⟩, by omega, ?_⟩
        intro c hc _
        have m1 : c ≠ H.next := by omega
        simp [m1, hold c hc]
    | succ k =>
      have e2 : IntKind.i64.wrap ((i : Int) + 1) = ((i + 1 : Nat) : Int) := by rw [w64 _ (by omega)]; omega
      have e3 : (i : Int) < n := by omega
      have hx2 : Own (H1.new 3 1 [.int .i64 i]) 3 1 i ((upTo i).map (.int .i64)) x := hx.keep rfl (fun b hb => by
        have := hx.lt hw1 hb
        have : b ≠ H1.next := by omega
        simp [this])
      have hap := append_any (bytes := 8) hx2 (src_one (H := H1.new 3 1 [.int .i64 i]) (ety := 3) (v := .int .i64 i) (c := 0) (by simpa using nB) (by simp)) (by omega) (by omega)
      have q1 : H.next + 1 ≠ H1.next := by omega
      have q2 : H.next ≠ H1.next := by omega
      have q3 : ¬ blkOf x = some (H.next + 1) := fun h => by have := hxb _ h; omega
      have q4 : ¬ blkOf x = some H.next := fun h => by have := hxb _ h; omega
      have q5 : H.next ≠ H1.next + 1 := by omega
      simp [L13_1, t0, t2, t4, t5, e3, e2, Heap.load, Heap.store, np, b1, q1, q2, q3, blk_drop, zerosA, hap]
      refine ⟨k, Nat.lt_succ_self k, .slice (some ⟨H1.next + 1, 0, none⟩) (i + 1) 0, i + 1, by omega, by simp [t0], by simp [t2], by simp [t4], by simp, by simpa using hB, by simp; omega, WF_put (WF_new (WF_drop (WF_new hw1 _ _ _) _) _ _ _) _ _, ?_, ?_, ?_, ?_, ?_⟩
      · simp [b0, q2, q4, q5, blk_drop]
      · simp [b1, q1, q2, q3, blk_drop]
      · rw [upTo_succ, List.map_append]
        refine Own.mk ?_ (by simp; omega) (by simp [q2.symm])
        simp [upTo_len]
      · intro b hb
        simp at hb
        subst hb
        refine ⟨by omega, _, by simp [q2.symm]; rfl, by simp [upTo_len]⟩
      · intro b hb
        have m1 : b ≠ H1.next := by omega
        have m2 : b ≠ H1.next + 1 := by omega
        have m3 : b ≠ H.next + 1 := by omega
        have m4 : ¬ blkOf x = some b := fun h => by have := hxb _ h; omega
        simp [m1, m2, m3, m4, blk_drop, hold b hb]
end Go.Proofs.Ytfddocdhjjnajaa
