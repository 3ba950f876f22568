/-
  ArenaOnce answers true at every number and every slice of numbers.
-/
import Derived.Test.YtfddocdhjjnajaaSeatC
import Derived.Test.YtfddocdhjjnajaaOtX
namespace Go.Proofs.Ytfddocdhjjnajaa
open Go.Ot
set_option linter.unusedSimpArgs false
set_option linter.unusedVariables false
/-- The free ones and the used ones of an arena fit. -/
structure OKA (n : Nat) (fr : List Int) (us : List Bool) : Prop where
  len : us.length = n
  cnt : us.count true + fr.length = n
  nd : fr.Nodup
  mem : ∀ s ∈ fr, 0 ≤ s ∧ s < n ∧ us.getD s.toNat false = false
theorem OKA.le {n : Nat} {fr : List Int} {us : List Bool} (h : OKA n fr us) : fr.length ≤ n := by have := h.cnt; omega
theorem OKA.init (n : Nat) : OKA n (frI n 0) (List.replicate n false) := by
  refine ⟨by simp, by simp [frI_len, List.count_replicate], ?_, ?_⟩
  · unfold frI
    rw [List.nodup_iff_pairwise_ne, List.pairwise_map, List.pairwise_reverse]
    refine List.Pairwise.imp ?_ (List.pairwise_lt_range' (s := 0) (n := n - 0))
    intro a b h; omega
  · intro s hs
    simp only [frI, List.mem_map, List.mem_reverse, List.mem_range'_1] at hs
    obtain ⟨k, hk, rfl⟩ := hs
    refine ⟨by omega, by omega, ?_⟩
    simp [List.getD, List.getElem?_replicate]
    split <;> rfl
theorem OKA.take {n : Nat} {fr : List Int} {s : Int} {us : List Bool} (h : OKA n (fr ++ [s]) us) : OKA n fr (us.set s.toNat true) := by
  obtain ⟨s0, s1, s2⟩ := h.mem s (by simp)
  have hl := h.len
  have hlt : s.toNat < us.length := by omega
  have hf : us[s.toNat] = false := by simpa [List.getD, hlt] using s2
  have hc := h.cnt
  have hnd := h.nd
  rw [List.nodup_append] at hnd
  refine ⟨by simpa using hl, ?_, hnd.1, ?_⟩
  · rw [List.count_set hlt, hf]
    simp at hc ⊢; omega
  · intro r hr
    obtain ⟨r0, r1, r2⟩ := h.mem r (by simp [hr])
    refine ⟨r0, r1, ?_⟩
    have hne : r ≠ s := hnd.2.2 r hr s (by simp)
    have : s.toNat ≠ r.toNat := by omega
    simpa [List.getD, List.getElem?_set, this] using r2
theorem OKA.back {n : Nat} {fr : List Int} {i : Int} {us : List Bool} (h : OKA n fr us) (hi : usedB us i = true) : OKA n (fr ++ [i]) (us.set i.toNat false) := by
  simp only [usedB, Bool.and_eq_true, decide_eq_true_eq] at hi
  obtain ⟨⟨h0, h1⟩, h2⟩ := hi
  have hl := h.len
  have hlt : i.toNat < us.length := by omega
  have hf : us[i.toNat] = true := by simpa [List.getD, hlt] using h2
  have hc := h.cnt
  have hpos : 0 < us.count true := List.count_pos_iff.2 (hf ▸ List.getElem_mem hlt)
  refine ⟨by simpa using hl, ?_, ?_, ?_⟩
  · rw [List.count_set hlt, hf]
    simp; omega
  · rw [List.nodup_append]
    refine ⟨h.nd, by simp, ?_⟩
    intro a ha b hb
    simp at hb; subst hb
    rintro rfl
    have := (h.mem a ha).2.2
    simp [List.getD, hlt, hf] at this
  · intro r hr
    simp only [List.mem_append, List.mem_singleton] at hr
    rcases hr with hr | rfl
    · obtain ⟨r0, r1, r2⟩ := h.mem r hr
      refine ⟨r0, r1, ?_⟩
      by_cases he : i.toNat = r.toNat
      · simp [List.getD, List.getElem?_set, he]
        by_cases hx : r.toNat < us.length <;> simp [hx]
      · simpa [List.getD, List.getElem?_set, he] using r2
    · refine ⟨h0, by omega, ?_⟩
      simp [List.getD, List.getElem?_set, hlt]
def InvO (B : Heap) (n p : Nat) (x : Value) (xs : List Int) (k : Nat) (t : Tm) (H1 : Heap) : Prop :=
  ∃ (i fb ub ob : Nat) (fr : List Int) (us : List Bool), i + k = xs.length ∧ t 0 = .int .i64 n ∧ t 1 = x ∧ t 5 = ptr p ∧ t 7 = sl ob n ∧ t 8 = .int .i64 ((n : Int) - fr.length) ∧ t 9 = .int .i64 i ∧ H1.base = B.base ∧ H1.WF ∧
    AR H1 p fb ub fr us ∧ OKA n fr us ∧ H1.blk ob = some ⟨4, 1, us.map .bool⟩ ∧ ob ≠ p ∧ ob ≠ fb ∧ ob ≠ ub
def InvU (H2 : Heap) (m p ob : Nat) (fr : List Int) (k : Nat) (t : Tm) (H3 : Heap) : Prop :=
  ∃ j : Nat, j + k = m ∧ t 0 = .int .i64 m ∧ t 5 = ptr p ∧ t 7 = sl ob m ∧ t 8 = .int .i64 ((m : Int) - fr.length) ∧ t 13 = .int .i64 j ∧ H3 = H2
theorem AR.other {H : Heap} {p fb ub : Nat} {fr : List Int} {us : List Bool} (h : AR H p fb ub fr us) {ob : Nat} (cs : List Value) (h1 : ob ≠ p) (h2 : ob ≠ fb) (h3 : ob ≠ ub) : AR (H.put ob cs) p fb ub fr us :=
  ⟨h.hp, h.hf, h.hu, h.pf, h.pu, h.fu, by simp [h1.symm, h.bp], by simp [h3.symm, h.bu], by simpa [h2.symm] using h.bf⟩
theorem once_T {H : Heap} (hw : H.WF) {n : Int} (hn : -9223372036854775808 ≤ n ∧ n ≤ 9223372036854775807) {x : Value} {xs : List Int} (hx : IntsB H .i64 x xs) (hxw : ∀ n ∈ xs, (Lit.int .i64 n).wf = true) :
    ∃ v H', T Try.prog 3 [.int .i64 n, x] H v H' ∧ v = .bool true := by
  refine T_by hm light3 ?_
  obtain ⟨xa, xc, hxl⟩ := hx.len
  by_cases hlen : 300 < xs.length
  · have hlen' : (300 : Int) < xs.length := by omega
    subst hxl
    simp [L3, hlen']
  have hlen' : ¬ (300 : Int) < xs.length := by omega
  by_cases hb : n < 1 ∨ 512 < n
  · subst hxl
    simp [L3, hlen']
    refine goT_of (new_bad hb) ?_
    obtain ⟨v, H1, T1, rfl, _⟩ := alive_T hw
    simp
    exact goT_of T1 (by simp)
  · have hn1 : 1 ≤ n ∧ n ≤ 512 := by omega
    obtain ⟨v1, H1, T1, p, fb, ub, rfl, A1, S1, hp, hf, hu⟩ := new_T hw hn1
    have w1 := T1.grow.wf hw
    obtain ⟨m, rfl⟩ : ∃ m : Nat, n = m := ⟨n.toNat, by omega⟩
    simp only [Int.toNat_natCast] at A1
    have q1 : (m : Int) ≤ 9223372036854775807 := by omega
    have q2 : (m : Int) ≤ 140737488355328 := by omega
    rw [hxl]
    simp [L3, hlen']
    refine goT_of T1 ?_
    simp [sMake, q1, q2]
    rw [← hxl]
    have hB1 := T1.B
    have hn1' := w1.next_ge
    have k1 := w1.lt A1.bp
    have k2 := w1.lt A1.bu
    obtain ⟨rest, bf1⟩ := A1.bf
    have k3 := w1.lt bf1
    refine loop_at (InvO H m p x xs) xs.length ?_ ?_
    · refine ⟨0, fb, ub, H1.next, frI m 0, List.replicate m false, by simp, by simp, by simp, by simp, by simp, by simp [frI_len], by simp, T1.1, WF_new w1 _ _ _, ?_, OKA.init m, by simp [zerosA_one], by omega, by omega, by omega⟩
      exact ⟨by simpa using A1.hp, by simpa using A1.hf, by simpa using A1.hu, A1.pf, A1.pu, A1.fu, by simpa [show p ≠ H1.next by omega] using A1.bp, by simpa [show ub ≠ H1.next by omega] using A1.bu, by simpa [show fb ≠ H1.next by omega] using A1.bf⟩
    · rintro k t H2 ⟨i, fb, ub, ob, fr, us, hik, t0, t1, t5, t7, t8, t9, hbase, w2, A2, ok, bo, o1, o2, o3⟩
      have obB := w2.ge bo
      have hfl := ok.le
      have hul := ok.len
      cases k with
      | succ k =>
        have hi : i < xs.length := by omega
        obtain ⟨b, off, c, hxe, hbB, hld⟩ := (hx.keep hbase).at hi
        rw [hxe] at t1
        have hii : (i : Int) < xs.length := by omega
        have e9 : IntKind.i64.wrap ((i : Int) + 1) = ((i + 1 : Nat) : Int) := by rw [w64 _ (by omega)]; omega
        have lo : ∀ off, H2.load ⟨ob, off, none⟩ = (us.map Value.bool)[off]? := fun off => load_at obB bo
        have so : ∀ off v, H2.store ⟨ob, off, none⟩ v = if off < (us.map Value.bool).length then some (H2.put ob ((us.map Value.bool).set off v)) else none := fun off v => store_own obB bo
        by_cases hc : 0 ≤ xs[i]
        · by_cases hu : usedB us xs[i] = true
          · have hu' := hu
            simp only [usedB, Bool.and_eq_true, decide_eq_true_eq] at hu'
            obtain ⟨⟨_, c1⟩, c2⟩ := hu'
            have c3 : xs[i] < (m : Int) := by omega
            have c4 : xs[i].toNat < us.length := by omega
            have c5 : us[xs[i].toNat] = true := by simpa [List.getD, c4] using c2
            simp [L3_1, t0, t1, t5, t7, t8, t9, hii, hld, hc, c3, lo, c4, c5]
            obtain ⟨v3, H3, T3, rfl, fb', hf', A3, S3⟩ := back_T w2 A2 (by omega) hu
            have w3 := T3.grow.wf w2
            have b3 : H3.base = H.base := T3.1.trans hbase
            have bo3 : H3.blk ob = some ⟨4, 1, us.map .bool⟩ := (S3 ob (w2.lt bo) (by simp [o1, o2, o3])).trans bo
            have ob3 := w3.ge bo3
            have obn := w2.lt bo
            have lo3 : ∀ off, H3.load ⟨ob, off, none⟩ = (us.map Value.bool)[off]? := fun off => load_at ob3 bo3
            have so3 : ∀ off v, H3.store ⟨ob, off, none⟩ v = if off < (us.map Value.bool).length then some (H3.put ob ((us.map Value.bool).set off v)) else none := fun off v => store_own ob3 bo3
            have hld3 : H3.load ⟨b, off + i, none⟩ = some (.int .i64 xs[i]) := by rw [load_ext T3.1 hbB]; exact hld
            have e8 : IntKind.i64.wrap ((m : Int) - fr.length - 1) = (m : Int) - fr.length - 1 := w64 _ (by omega)
            refine goT_of T3 ?_
            simp [t0, t1, t5, t7, t8, t9, hii, hld3, hc, c3, lo3, so3, c4, c5, e8, e9]
            refine ⟨k, Nat.lt_succ_self k, i + 1, fb', ub, ob, _, _, by omega, by simp [t0], by simp [t1, hxe], by simp [t5], by simp [t7], by simp; omega, by simp, b3, WF_put w3 _ _, A3.other _ o1 (by omega) o3, ok.back hu, by simp [bo3, List.map_set], o1, by omega, o3⟩
          · have hu2 : usedB us xs[i] = false := by simpa using hu
            have T3 := back_no A2 hu2
            have e66 : ((201 : Int) == 0) = false := rfl
            by_cases c3 : xs[i] < (m : Int)
            · have c4 : xs[i].toNat < us.length := by omega
              have c1 : xs[i] < (us.length : Int) := by omega
              have c5 : us[xs[i].toNat] = false := by simpa [usedB, hc, c1, List.getD, c4] using hu2
              simp [L3_1, t0, t1, t5, t7, t8, t9, hii, hld, hc, c3, lo, c4, c5]
              refine goT_of T3 ?_
              simp [t9, e9]
              exact ⟨k, Nat.lt_succ_self k, i + 1, fb, ub, ob, _, _, by omega, by simp [t0], by simp [t1, hxe], by simp [t5], by simp [t7], by simp [t8], by simp, hbase, w2, A2, ok, bo, o1, o2, o3⟩
            · simp [L3_1, t0, t1, t5, t7, t8, t9, hii, hld, hc, c3, lo]
              refine goT_of T3 ?_
              simp [t9, e9]
              exact ⟨k, Nat.lt_succ_self k, i + 1, fb, ub, ob, _, _, by omega, by simp [t0], by simp [t1, hxe], by simp [t5], by simp [t7], by simp [t8], by simp, hbase, w2, A2, ok, bo, o1, o2, o3⟩
        · rcases List.eq_nil_or_concat fr with rfl | ⟨fr', s, rfl⟩
          · have T3 := take_none A2
            simp [L3_1, t0, t1, t5, t7, t8, t9, hii, hld, hc, lo]
            refine goT_of T3 ?_
            simp [t8, t0, t9, e9]
            exact ⟨k, Nat.lt_succ_self k, i + 1, fb, ub, ob, _, _, by omega, by simp [t0], by simp [t1, hxe], by simp [t5], by simp [t7], by simp [t8], by simp, hbase, w2, A2, ok, bo, o1, o2, o3⟩
          · rw [List.concat_eq_append] at A2 ok t8 hfl
            obtain ⟨s0, s1, s2⟩ := ok.mem s (by simp)
            have c4 : s.toNat < us.length := by omega
            have c5 : us[s.toNat] = false := by simpa [List.getD, c4] using s2
            have s1' : s < (us.length : Int) := by omega
            obtain ⟨v3, H3, T3, rfl, A3, S3⟩ := take_T A2 ⟨s0, s1'⟩ (by simp at hfl; omega)
            have w3 := T3.grow.wf w2
            have b3 : H3.base = H.base := T3.1.trans hbase
            have bo3 : H3.blk ob = some ⟨4, 1, us.map .bool⟩ := (S3 ob (w2.lt bo) (by simp [o1, o3])).trans bo
            have ob3 := w3.ge bo3
            have lo3 : ∀ off, H3.load ⟨ob, off, none⟩ = (us.map Value.bool)[off]? := fun off => load_at ob3 bo3
            have so3 : ∀ off v, H3.store ⟨ob, off, none⟩ v = if off < (us.map Value.bool).length then some (H3.put ob ((us.map Value.bool).set off v)) else none := fun off v => store_own ob3 bo3
            have hfl' : fr'.length + 1 ≤ m := by simpa using hfl
            have e8 : IntKind.i64.wrap ((m : Int) - (fr'.length + 1) + 1) = (m : Int) - fr'.length := by rw [w64 _ (by omega)]; omega
            simp at t8
            have ns : ¬ s < 0 := by omega
            have ns2 : ¬ (m : Int) ≤ s := by omega
            simp [L3_1, t0, t1, t5, t7, t8, t9, hii, hld, hc, lo]
            refine goT_of T3 ?_
            simp [t0, t1, t5, t7, t8, t9, ns, ns2, s0, s1, lo3, so3, c4, c5, e8, e9]
            refine ⟨k, Nat.lt_succ_self k, i + 1, fb, ub, ob, _, _, by omega, by simp [t0], by simp [t1, hxe], by simp [t5], by simp [t7], by simp, by simp, b3, WF_put w3 _ _, A3.other _ o1 o2 o3, ok.take, by simp [bo3, List.map_set], o1, o2, o3⟩
      | zero =>
        have e0 : i = xs.length := by omega
        subst e0
        obtain ⟨xa2, xc2, hxl2⟩ := hx.len
        rw [hxl2] at t1
        have lo : ∀ off, H2.load ⟨ob, off, none⟩ = (us.map Value.bool)[off]? := fun off => load_at obB bo
        simp [L3_1, t0, t1, t9]
        refine loop_at (InvU H2 m p ob fr) m ?_ ?_
        · exact ⟨0, by omega, by simp [t0], by simp [t5], by simp [t7], by simp [t8], by simp, rfl⟩
        · rintro k t H3 ⟨j, hjk, t0, t5, t7, t8, t13, rfl⟩
          cases k with
          | succ k =>
            have j1 : (j : Int) < m := by omega
            have j2 : j < us.length := by omega
            have e9 : IntKind.i64.wrap ((j : Int) + 1) = ((j + 1 : Nat) : Int) := by rw [w64 _ (by omega)]; omega
            have T3 := used_T A2 (j : Int)
            have e3 : usedB us (j : Int) = us[j] := by
              have j3 : (j : Int) < us.length := by omega
              simp [usedB, j3, List.getD, j2]
            rw [e3] at T3
            simp [L3_2, t0, t5, t7, t13, j1]
            refine goT_of T3 ?_
            simp [t0, t5, t7, t13, j1, lo, j2, e9]
            exact ⟨k, Nat.lt_succ_self k, j + 1, by omega, by simp [t0], by simp [t5], by simp [t7], by simp [t8], by simp, rfl⟩
          | zero =>
            have e0 : j = m := by omega
            subst e0
            have u1 : usedB us (-1) = false := by simp [usedB]
            have u2 : usedB us (j : Int) = false := by simp [usedB, hul]
            have T4 := live_T A2 (by omega) (by omega)
            have T5 := free_T A2
            have T6 := used_T A2 (-1)
            have T7 := used_T A2 (j : Int)
            rw [u1] at T6
            rw [u2] at T7
            obtain ⟨v, H6, T8, rfl, _⟩ := alive_T w2
            have e6 : IntKind.i64.wrap ((j : Int) - ((j : Int) - fr.length)) = fr.length := by rw [w64 _ (by omega)]; omega
            simp [L3_2, t0, t5, t13]
            refine goT_of T4 ?_
            simp [t0, t5, t8, hul]
            refine goT_of T5 ?_
            simp [t0, t5, t8, e6]
            refine goT_of T6 ?_
            simp [t0, t5]
            refine goT_of T7 ?_
            simp
            exact goT_of T8 (by simp)
end Go.Proofs.Ytfddocdhjjnajaa
