/-
  Chapter 21: Put.
-/
import Derived.Test.YthclcdboialfnaaSeatE
namespace Go.Proofs.Ythclcdboialfnaa
open Go.Ot Go.RowKit
set_option linter.unusedSimpArgs false
set_option linter.unusedVariables false
theorem put_out {H : Heap} {p : Nat} {D : SD} (h : ST H p D) {a age v : Int} (hi : inV D a = false) : T Try.prog 8 [ptr p, iv a, iv age, iv v] H (iv 131) H := by
  refine T_eq hm light8 ?_
  have iT := inside_T h a
  rw [hi] at iT
  simp [L8]
  refine goT_of iT ?_
  simp
theorem put_age {H : Heap} {p : Nat} {D : SD} (h : ST H p D) {a age v : Int} (hi : inV D a = true) (h0 : age < 0) : T Try.prog 8 [ptr p, iv a, iv age, iv v] H (iv 210) H := by
  refine T_eq hm light8 ?_
  have iT := inside_T h a
  rw [hi] at iT
  simp [L8]
  refine goT_of iT ?_
  simp [h0]
def ins (l : List Lk) (i : Nat) (q : Lk) : List Lk := l.take i ++ [q] ++ l.drop i
theorem Chn.app {H : Heap} (hw : H.WF) {x : Value} {l : List Lk} (h : Chn H x l) (hl : l.length ≤ 1000000) :
    ∃ H4, sAppend (H.new 65 2 [iv 0, iv 0]) 65 2 16 x (.slice (some ⟨H.next, 0, none⟩) 1 0) = some (.slice (some ⟨H.next + 1, 0, none⟩) (l.length + 1) 0, H4) ∧ Vr H4 (H.next + 1) 65 2 (lk l ++ [iv 0, iv 0]) ∧ H4.WF ∧ H4.base = H.base ∧ H4.next = H.next + 2 ∧ ∀ b, b < H.next → blkOf x ≠ some b → H4.blk b = H.blk b := by
  have hnB := hw.next_ge
  have o : On H (H.new 65 2 [iv 0, iv 0]) := (On.refl hw).new _ _ _
  have hs : srcCells (H.new 65 2 [iv 0, iv 0]) 2 (.slice (some ⟨H.next, 0, none⟩) 1 0) = some (1, [iv 0, iv 0]) := by
    rw [src_at (ety := 65) (cs := [iv 0, iv 0]) (by simpa using hnB) (by simp) (by simp)]
    simp
  have hll := lk_len l
  have nB1 : ¬ (H.next + 1) < H.B := by omega
  rcases h with ⟨rfl, rfl⟩ | ⟨b, c, rest, rfl, hc, hB, hk⟩
  · refine ⟨_, by rw [append_nil hs (by decide) (by decide)]; simp; rfl, ⟨by simpa using nB1, by simp [lk], by decide⟩, WF_new o.wf _ _ _, rfl, rfl, fun b hb _ => ?_⟩
    simp [show b ≠ H.next + 1 by omega, show b ≠ H.next by omega]
  · have hblt := hw.lt hk
    have hk' : (H.new 65 2 [iv 0, iv 0]).blk b = some ⟨65, 2, lk l ++ rest⟩ := by simp [show b ≠ H.next by omega, hk]
    rcases hc with rfl | rfl
    · refine ⟨_, by rw [append_own hk' hs (by decide) (by omega) (by simp; omega)]; simp; rfl, ⟨by simpa using nB1, by simp [← hll], by decide⟩, WF_new (WF_kill o.wf _) _ _ _, by simp, by simp, fun b' hb' hx => ?_⟩
      have : b' ≠ b := fun e => hx (by rw [e]; rfl)
      simp [show b' ≠ H.next + 1 by omega, this, show b' ≠ H.next by omega]
    · have hld : (H.new 65 2 [iv 0, iv 0]).loadN ⟨b, 0, none⟩ 0 (l.length * 2) = some (lk l) := by
        rw [loadN_at (by simpa using hB) hk' (by simp; omega)]
        simp [← hll]
      have hbd : (l.length + 1) * 16 ≤ 140737488355328 := by omega
      refine ⟨(H.new 65 2 [iv 0, iv 0]).new 65 2 (lk l ++ [iv 0, iv 0]), by simp only [sAppend, hs, Option.bind_some]; simp [hld, hbd], ⟨by simpa using nB1, by simp, by decide⟩, WF_new o.wf _ _ _, rfl, rfl, fun b' hb' _ => ?_⟩
      simp [show b' ≠ H.next + 1 by omega, show b' ≠ H.next by omega]
theorem put_there {H : Heap} (hw : H.WF) {p W R : Nat} {D : SD} (h : ST H p D) (pl : PL D W R) {a : Nat} (ha : a < D.xs.length) (ha' : a < D.ch.length) {age v : Int} (h0 : 0 ≤ age) {i : Nat} (hP : PlaceV D.ch[a] age i) (hi : i < D.ch[a].length) (hq : D.ch[a][i].1 = age)
    (pT : T Try.prog 20 [ptr p, iv a, iv age] H (.tuple #[iv i, .bool true]) H) :
    T Try.prog 8 [ptr p, iv a, iv age, iv v] H (iv 0) (H.put D.vb ((D.vals.set D.ch[a][i].2.toNat v).map iv)) := by
  have pR := pl.R1
  have hll := pl.long a ha'
  have iT := inside_T h (a : Int)
  have hin : inV D (a : Int) = true := by simp [inV, ha]
  rw [hin] at iT
  have haI : (a : Int) < (D.xs.length : Int) := by omega
  have h0' : ¬ age < 0 := by omega
  have lc := h.lc ha
  obtain ⟨own, hown⟩ := pl.own
  have hqo := hown a ha' _ (List.getElem_mem hi)
  obtain ⟨b, c, hxb, _, l1, _⟩ := (h.cn a ha ha').get hi
  rw [hxb] at lc
  simp only [Nat.zero_add] at l1
  obtain ⟨n, hn⟩ : ∃ n, n = D.ch[a].length := ⟨_, rfl⟩
  obtain ⟨q2, hq2⟩ : ∃ q2, q2 = D.ch[a][i].2 := ⟨_, rfl⟩
  rw [← hq2] at l1 hqo ⊢
  rw [← hn] at lc hi
  obtain ⟨s, hs⟩ : ∃ s, s = q2.toNat := ⟨_, rfl⟩
  have eqs : q2 = (s : Int) := by omega
  rw [eqs] at l1
  rw [← hs]
  have hsR : s < D.vals.length := by rw [pl.hR]; omega
  have hsI : (s : Int) < (D.vals.length : Int) := by omega
  have hiI : (i : Int) < (n : Int) := by omega
  have vv : Vr H D.vb 2 1 (D.vals.map iv) := ⟨h.hv, h.bv, by decide⟩
  have st := vv.store s (iv v) (by simpa using hsR)
  rw [← List.map_set] at st
  refine T_eq hm light8 ?_
  simp [L8]
  refine goT_of iT ?_
  simp [h0']
  refine goT_of pT ?_
  simp [h.l1, h.l2, ha, haI, lc, hi, hiI, l1, hsR, hsI, st]
theorem put_new {H : Heap} (hw : H.WF) {p W R : Nat} {D : SD} (h : ST H p D) (pl : PL D W R) {a : Nat} (ha : a < D.xs.length) (ha' : a < D.ch.length) {age v : Int} (h0 : 0 ≤ age) {i : Nat} (hi : i ≤ D.ch[a].length)
    (pT : T Try.prog 20 [ptr p, iv a, iv age] H (.tuple #[iv i, .bool false]) H) {fr' : List Int} {s : Int} (hfr : D.fr = fr' ++ [s]) :
    ∃ H' x', T Try.prog 8 [ptr p, iv a, iv age, iv v] H (iv 0) H' ∧ ST H' p { D with fr := fr', us := D.us.set s.toNat true, vals := D.vals.set s.toNat v, xs := D.xs.set a x', ch := D.ch.set a (ins D.ch[a] i (age, s)) } ∧
      Fm H H' p D { D with fr := fr', us := D.us.set s.toNat true, vals := D.vals.set s.toNat v, xs := D.xs.set a x', ch := D.ch.set a (ins D.ch[a] i (age, s)) } := by
  have pR := pl.R1
  have hll := pl.long a ha'
  have sok := pl.frok s (by rw [hfr]; simp)
  have frl : fr'.length < 1000 := by
    have := pl.frR
    rw [hfr] at this
    simp at this
    omega
  have iT := inside_T h (a : Int)
  have hin : inV D (a : Int) = true := by simp [inV, ha]
  rw [hin] at iT
  have haI : (a : Int) < (D.xs.length : Int) := by omega
  have h0' : ¬ age < 0 := by omega
  have ar := h.ar
  rw [hfr] at ar
  obtain ⟨v1, H1, tT, rfl, ar1, sm1⟩ := take_T ar (s := s) (by rw [pl.hu]; omega) frl
  have hw1 := tT.2.2.1 hw
  obtain ⟨st1, fm1⟩ := h.arena hw1 tT.1 tT.2.1 hw ar1 (.inl rfl) (sm1.mono (by simp))
  obtain ⟨sn, hsn⟩ : ∃ sn, sn = s.toNat := ⟨_, rfl⟩
  have eqs : s = (sn : Int) := by omega
  rw [← hsn] at st1 fm1 ⊢
  have hsR : sn < D.vals.length := by rw [pl.hR]; omega
  have hsI : (sn : Int) < (D.vals.length : Int) := by omega
  have l11 := st1.l1
  simp only at l11
  have vv : Vr H1 D.vb 2 1 (D.vals.map iv) := ⟨st1.hv, st1.bv, by decide⟩
  have sv := vv.store sn (iv v) (by simpa using hsR)
  rw [← List.map_set] at sv
  obtain ⟨st2, fm2⟩ := st1.putv hw1 (D.vals.set sn v) (by simp)
  simp only at st2 fm2
  obtain ⟨H2, hH2⟩ : ∃ H2, H2 = H1.put D.vb ((D.vals.set sn v).map iv) := ⟨_, rfl⟩
  rw [← hH2] at sv st2 fm2
  have hw2 := fm2.wf
  have l22 := st2.l2
  have lc2 := st2.lc ha
  have cn2 := st2.cn a ha ha'
  simp only at l22 lc2 cn2
  obtain ⟨l, hl⟩ : ∃ l, l = D.ch[a] := ⟨_, rfl⟩
  obtain ⟨x, hx⟩ : ∃ x, x = D.xs[a] := ⟨_, rfl⟩
  rw [← hl, ← hx] at cn2
  rw [← hx] at lc2
  rw [← hl] at hi hll ⊢
  obtain ⟨H4, ap, vN, hw4, b4, n4, k4⟩ := cn2.app hw2 (by omega)
  obtain ⟨N, hN⟩ : ∃ N, N = H2.next + 1 := ⟨_, rfl⟩
  rw [← hN] at ap vN
  obtain ⟨A, hA⟩ : ∃ A, A = lk (l.take i) := ⟨_, rfl⟩
  obtain ⟨B, hB⟩ : ∃ B, B = lk (l.drop i) := ⟨_, rfl⟩
  have hAl : A.length = i * 2 := by rw [hA, lk_len, List.length_take]; omega
  have hBl : B.length = (l.length - i) * 2 := by rw [hB, lk_len, List.length_drop]
  have hAB : lk l = A ++ B := by rw [hA, hB, ← lk_append, List.take_append_drop]
  rw [hAB] at vN
  have cp := vr_copy (c1 := 2) (c2 := if i = 0 then 0 else 2) vN hAl hBl rfl hi
  obtain ⟨c5, hc5⟩ : ∃ c5, c5 = (A ++ B ++ [iv 0, iv 0]).take ((i + 1) * 2) ++ B := ⟨_, rfl⟩
  rw [← hc5] at cp
  have hl5 : ((A ++ B ++ [iv 0, iv 0]).take ((i + 1) * 2)).length = (i + 1) * 2 := by rw [List.length_take]; simp; omega
  have v5 := vN.put c5
  have sN : sStore (H4.put N c5) 2 (.pointer (some ⟨N, i * 2, none⟩)) (.agg #[iv age, iv sn]) = some (H4.put N (A ++ [iv age, iv sn] ++ B)) := by
    rw [sStore_agg (H4.put N c5) ⟨N, i * 2, none⟩ 2 [iv age, iv sn] rfl (by decide), storeN_at v5.hq v5.bq (by simp [hc5, hl5]; omega) v5.hn, put_put]
    simp only [Nat.add_zero, Option.some.injEq]
    congr 1
    rw [hc5, List.take_append_of_le_length (by omega), List.take_take, show min (i * 2) ((i + 1) * 2) = i * 2 by omega, List.append_assoc A B, List.take_left' hAl]
    congr 1
    rw [show i * 2 + [iv age, iv (sn : Int)].length = (i + 1) * 2 by simp; omega]
    exact List.drop_left' (by rw [← List.append_assoc]; exact hl5)
  obtain ⟨H6, hH6⟩ : ∃ H6, H6 = H4.put N (A ++ [iv age, iv sn] ++ B) := ⟨_, rfl⟩
  have v6 : Vr H6 N 65 2 (A ++ [iv age, iv sn] ++ B) := by rw [hH6]; exact vN.put _
  rw [← hH6] at sN
  have hw6 : H6.WF := by rw [hH6]; exact WF_put hw4 _ _
  have b6 : H6.base = H2.base := by rw [hH6]; exact b4
  have n6 : H6.next = H2.next + 2 := by rw [hH6]; exact n4
  have k6 : ∀ b, b < H2.next → blkOf x ≠ some b → H6.blk b = H2.blk b := by
    intro b hb hxb
    rw [hH6]
    simp [show b ≠ N by omega, k4 b hb hxb]
  obtain ⟨x', hx'⟩ : ∃ x' : Value, x' = .slice (some ⟨N, 0, none⟩) (l.length + 1) 0 := ⟨_, rfl⟩
  have hins : (ins l i (age, (sn : Int))).length = l.length + 1 := by simp [ins]; omega
  have cn6 : Chn H6 x' (ins l i (age, (sn : Int))) := by
    refine .inr ⟨N, 0, [], by rw [hx', hins], .inl rfl, v6.hq, ?_⟩
    rw [v6.bq, List.append_nil]
    congr 2
    unfold ins
    rw [lk_append, lk_append, hA, hB]
    rfl
  have notx : ∀ {b ty sz : Nat} {cs : List Value}, H2.blk b = some ⟨ty, sz, cs⟩ → ty ≠ 65 → blkOf x ≠ some b := by
    intro b ty sz cs hk t e
    rw [hx] at e
    obtain ⟨cs', hk'⟩ := st2.chk ha e
    exact blk_ne hk hk' t rfl
  have B6 := B_eq b6
  have l26 : H6.load ⟨p, 2, none⟩ = some (sl D.cb D.xs.length) := by
    rw [load_at (by rw [B6]; exact st2.hp) (by rw [k6 p (hw2.lt st2.bp) (notx st2.bp (by decide))]; exact st2.bp)]; rfl
  have vc6 : Vr H6 D.cb 66 1 D.xs := ⟨by rw [B6]; exact st2.hc, by rw [k6 _ (hw2.lt st2.bc) (notx st2.bc (by decide))]; exact st2.bc, by decide⟩
  have sc := vc6.store a x' ha
  obtain ⟨st7, fm7⟩ := st2.chain hw6 b6 (by omega) hw2 ha (x' := x') (l' := ins l i (age, (sn : Int))) (by rw [← hx]; exact k6) cn6 (fun b hb => .inl (by rw [hx'] at hb; have : N = b := Option.some.inj hb; omega))
  simp only at st7 fm7
  obtain ⟨H7, hH7⟩ : ∃ H7, H7 = H6.put D.cb (D.xs.set a x') := ⟨_, rfl⟩
  rw [← hH7] at sc st7 fm7
  have l73 := st7.l3
  obtain ⟨c0, es0, hmk, hmi⟩ := st7.mp
  simp only at l73 hmk
  obtain ⟨m, hm1⟩ := map_get st7.hm hmk hmi age
  obtain ⟨c1, es1, hm2, hmi2⟩ := map_put st7.hm hmk hmi age (IntKind.i64.wrap (m + 1))
  obtain ⟨st8, fm8⟩ := st7.putm fm7.wf (c := c1) hmi2
  simp only at hm1 hm2 st8 fm8
  obtain ⟨H8, hH8⟩ : ∃ H8, H8 = H7.put D.mb (mcells c1 es1) := ⟨_, rfl⟩
  rw [← hH8] at hm2 st8 fm8
  refine ⟨H8, x', ?_, by rw [eqs]; exact st8, by rw [eqs]; exact ((fm1.trans fm2).trans fm7).trans fm8⟩
  have e1 : IntKind.i64.wrap ((i : Int) + 1) = ((i + 1 : Nat) : Int) := by rw [w64 _ (by omega)]; omega
  obtain ⟨iN, hiN⟩ : ∃ n : Nat, n = i + 1 := ⟨_, rfl⟩
  have s79 : sSlice 2 x' (some (iv iN)) none none = some (.slice (some ⟨N, (i + 1) * 2, none⟩) (l.length - i) 2) := by
    rw [hx', sSlice_lo, if_pos (by omega), if_neg (by omega), hiN]
    simp
  have s82 : sSlice 2 x' (some (iv i)) none none = some (.slice (some ⟨N, i * 2, none⟩) (l.length + 1 - i) (if i = 0 then 0 else 2)) := by
    rw [hx', sSlice_lo, if_pos (by omega)]
    simp
  have ix : sIdx 2 x' (iv i) = some (.pointer (some ⟨N, i * 2, none⟩)) := by
    rw [hx', sIdx_s, if_pos (by omega)]
    simp
  rw [← hiN] at e1
  rw [← hx'] at ap
  rw [eqs] at tT
  have hz2 : zerosA [iv 0, iv 0] 2 = [iv 0, iv 0] := rfl
  obtain ⟨ax, cx, hxs⟩ := cn2.len
  have sc' : sStore H6 1 (.pointer (some ⟨D.cb, a, none⟩)) x' = some H7 := by rw [hx'] at sc ⊢; rw [sStore_slice]; exact sc
  refine T_eq hm light8 ?_
  simp [L8]
  refine goT_of iT ?_
  simp [h0']
  refine goT_of pT ?_
  simp [h.l0]
  refine goT_of tT ?_
  simp [l11, hsR, hsI, sv, l22, ha, haI, lc2, hz2, ap, e1, s79, s82, cp, ix, sN, l26, sc', l73, hm1, hm2]
end Go.Proofs.Ythclcdboialfnaa
