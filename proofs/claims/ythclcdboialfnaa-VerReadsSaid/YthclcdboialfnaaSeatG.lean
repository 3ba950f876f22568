/-
  Chapter 21: Drop.
-/
import Derived.Test.YthclcdboialfnaaSeatF
namespace Go.Proofs.Ythclcdboialfnaa
open Go.Ot Go.RowKit
set_option linter.unusedSimpArgs false
set_option linter.unusedVariables false
theorem drop_out {H : Heap} {p : Nat} {D : SD} (h : ST H p D) {a age : Int} (hi : inV D a = false) : T Try.prog 9 [ptr p, iv a, iv age] H (.bool false) H := by
  refine T_eq hm light9 ?_
  have iT := inside_T h a
  rw [hi] at iT
  simp [L9]
  refine goT_of iT ?_
  simp
theorem drop_none {H : Heap} {p : Nat} {D : SD} (h : ST H p D) {a i : Nat} {age : Int} (ha : a < D.xs.length)
    (pT : T Try.prog 20 [ptr p, iv a, iv age] H (.tuple #[iv i, .bool false]) H) : T Try.prog 9 [ptr p, iv a, iv age] H (.bool false) H := by
  refine T_eq hm light9 ?_
  have iT := inside_T h (a : Int)
  have hin : inV D (a : Int) = true := by simp [inV, ha]
  rw [hin] at iT
  simp [L9]
  refine goT_of iT ?_
  simp
  refine goT_of pT ?_
  simp
theorem Chn.cut {H : Heap} (hw : H.WF) {x : Value} {l : List Lk} (h : Chn H x l) {i : Nat} (hi : i < l.length) (hl : l.length ≤ 1000000) :
    ∃ b c, x = .slice (some ⟨b, 0, none⟩) l.length c ∧ sSlice 2 x none (some (iv i)) (some (iv i)) = some (.slice (some ⟨b, 0, none⟩) i 1) ∧
      sSlice 2 x (some (iv ((i + 1 : Nat) : Int))) none none = some (.slice (some ⟨b, (i + 1) * 2, none⟩) (l.length - (i + 1)) 2) ∧
      ∃ ax n' cx H4, sAppend H 65 2 16 (.slice (some ⟨b, 0, none⟩) i 1) (.slice (some ⟨b, (i + 1) * 2, none⟩) (l.length - (i + 1)) 2) = some (.slice ax n' cx, H4) ∧ Chn H4 (.slice ax n' cx) (l.eraseIdx i) ∧ H4.WF ∧ H4.base = H.base ∧ H.next ≤ H4.next ∧
        (∀ b, b < H.next → H4.blk b = H.blk b) ∧ ∀ b, blkOf (.slice ax n' cx) = some b → H.next ≤ b ∨ blkOf x = some b := by
  have hnB := hw.next_ge
  have hll := lk_len l
  rcases h with ⟨rfl, rfl⟩ | ⟨b, c, rest, rfl, hc, hB, hk⟩
  · simp at hi
  refine ⟨b, c, rfl, ?_, ?_, ?_⟩
  · have : i ≤ l.length := by omega
    simp [sSlice, bnd, Addr.add, this]
  · rw [sSlice_lo, if_pos (by omega), if_neg (by omega)]
    simp
  have he : l.eraseIdx i = l.take i ++ l.drop (i + 1) := List.eraseIdx_eq_take_drop_succ l i
  have hl1 : (lk (l.take i)).length = i * 2 := by rw [lk_len, List.length_take]; omega
  have hl2 : (lk (l.drop (i + 1))).length = (l.length - (i + 1)) * 2 := by rw [lk_len, List.length_drop]
  have hel : (l.eraseIdx i).length = l.length - 1 := by rw [List.length_eraseIdx, if_pos hi]
  have tk : (lk l).take (i * 2) = lk (l.take i) := by
    conv => lhs; rw [← List.take_append_drop i l, lk_append]
    exact List.take_left' hl1
  have dk : (lk l).drop ((i + 1) * 2) = lk (l.drop (i + 1)) := by
    conv => lhs; rw [← List.take_append_drop (i + 1) l, lk_append]
    exact List.drop_left' (by rw [lk_len, List.length_take]; omega)
  have hs : srcCells H 2 (.slice (some ⟨b, (i + 1) * 2, none⟩) (l.length - (i + 1)) 2) = some (l.length - (i + 1), lk (l.drop (i + 1))) := by
    rw [src_at hB hk (by simp; omega), List.drop_append_of_le_length (by omega), dk, List.take_left' hl2]
  by_cases h0 : l.length - (i + 1) = 0
  · rw [h0] at hs ⊢
    refine ⟨some ⟨b, 0, none⟩, i, 1, H, append_none hs (.inl rfl), .inr ⟨b, 1, (lk l ++ rest).drop (i * 2), by rw [hel]; congr 1; omega, .inr rfl, hB, ?_⟩, hw, rfl, Nat.le_refl _, fun _ _ => rfl, fun b' hb' => .inr hb'⟩
    rw [hk, he, List.drop_eq_nil_of_le (by omega), List.append_nil, ← tk]
    congr 2
    rw [← List.take_append_of_le_length (l₂ := rest) (by omega), List.take_append_drop]
  · have hld : H.loadN ⟨b, 0, none⟩ 0 (i * 2) = some (lk (l.take i)) := by
      rw [loadN_at hB hk (by simp; omega)]
      simp only [Nat.add_zero, List.drop_zero]
      rw [List.take_append_of_le_length (by omega), tk]
    have hbd : (i + (l.length - (i + 1))) * 16 ≤ 140737488355328 := by omega
    refine ⟨some ⟨H.next, 0, none⟩, i + (l.length - (i + 1)), 0, H.new 65 2 (lk (l.take i) ++ lk (l.drop (i + 1))), by simp only [sAppend, hs, Option.bind_some]; simp [h0, hld, hbd], .inr ⟨H.next, 0, [], by rw [hel]; congr 1; omega, .inl rfl, by simpa using hnB, ?_⟩, WF_new hw _ _ _, rfl, by simp, fun b' hb' => ?_, fun b' hb' => ?_⟩
    · simp [he, lk_append]
    · simp [show b' ≠ H.next by omega]
    · left
      have : H.next = b' := Option.some.inj hb'
      omega
theorem drop_there {H : Heap} (hw : H.WF) {p W R : Nat} {D : SD} (h : ST H p D) (pl : PL D W R) {a : Nat} (ha : a < D.xs.length) (ha' : a < D.ch.length) {age : Int} {i : Nat} (hi : i < D.ch[a].length)
    (pT : T Try.prog 20 [ptr p, iv a, iv age] H (.tuple #[iv i, .bool true]) H) :
    ∃ H' fb' x', T Try.prog 9 [ptr p, iv a, iv age] H (.bool true) H' ∧
      ST H' p { D with fb := fb', fr := D.fr ++ [D.ch[a][i].2], us := D.us.set D.ch[a][i].2.toNat false, xs := D.xs.set a x', ch := D.ch.set a (D.ch[a].eraseIdx i) } ∧
      Fm H H' p D { D with fb := fb', fr := D.fr ++ [D.ch[a][i].2], us := D.us.set D.ch[a][i].2.toNat false, xs := D.xs.set a x', ch := D.ch.set a (D.ch[a].eraseIdx i) } := by
  have pR := pl.R1
  have hll := pl.long a ha'
  obtain ⟨own, hown⟩ := pl.own
  have hqo := hown a ha' _ (List.getElem_mem hi)
  have frR := pl.frR
  have iT := inside_T h (a : Int)
  have hin : inV D (a : Int) = true := by simp [inV, ha]
  rw [hin] at iT
  have haI : (a : Int) < (D.xs.length : Int) := by omega
  have lc := h.lc ha
  have cn := h.cn a ha ha'
  obtain ⟨b0, c0, hxb, _, l1, _⟩ := cn.get hi
  simp only [Nat.zero_add] at l1
  obtain ⟨q2, hq2⟩ : ∃ q2, q2 = D.ch[a][i].2 := ⟨_, rfl⟩
  rw [← hq2] at hqo l1 ⊢
  obtain ⟨l, hl⟩ : ∃ l, l = D.ch[a] := ⟨_, rfl⟩
  obtain ⟨x, hx⟩ : ∃ x, x = D.xs[a] := ⟨_, rfl⟩
  clear hq2
  rw [← hl] at hi hll cn hxb ⊢
  rw [← hx] at lc cn hxb
  have us1 : usedB D.us q2 = true := by
    simp only [usedB, Bool.and_eq_true, decide_eq_true_eq]
    exact ⟨⟨hqo.1, by rw [pl.hu]; exact hqo.2.1⟩, hqo.2.2.1⟩
  obtain ⟨v1, H1, tB, rfl, fb', hfb, ar1, sm1⟩ := back_T hw h.ar (by omega) us1
  have hw1 := tB.2.2.1 hw
  obtain ⟨st1, fm1⟩ := h.arena hw1 tB.1 tB.2.1 hw ar1 (.inr hfb) sm1
  have l12 := st1.l2
  have cn1 := st1.cn a ha ha'
  simp only at l12 cn1
  rw [← hl, ← hx] at cn1
  obtain ⟨b, c, hxs, s49, s53, ax, n', cx, H4, ap, cn4, hw4, b4, n4, k4, blk4⟩ := cn1.cut hw1 hi (by omega)
  obtain ⟨x', hx'⟩ : ∃ x', x' = Value.slice ax n' cx := ⟨_, rfl⟩
  rw [← hx'] at cn4 blk4
  have B4 := B_eq b4
  have vc4 : Vr H4 D.cb 66 1 D.xs := ⟨by rw [B4]; exact st1.hc, by rw [k4 _ (hw1.lt st1.bc)]; exact st1.bc, by decide⟩
  have sc := vc4.store a x' ha
  have l42 : H4.load ⟨p, 2, none⟩ = some (sl D.cb D.xs.length) := by
    rw [load_at (by rw [B4]; exact st1.hp) (by rw [k4 p (hw1.lt st1.bp)]; exact st1.bp)]; rfl
  obtain ⟨st7, fm7⟩ := st1.chain hw4 b4 n4 hw1 ha (x' := x') (l' := l.eraseIdx i) (fun b hb _ => k4 b hb) cn4 (fun b hb => by rw [← hx]; exact blk4 b hb)
  simp only at st7 fm7
  obtain ⟨H7, hH7⟩ : ∃ H7, H7 = H4.put D.cb (D.xs.set a x') := ⟨_, rfl⟩
  rw [← hH7] at sc st7 fm7
  have l73 := st7.l3
  obtain ⟨k0, es0, hmk, hmi⟩ := st7.mp
  simp only at l73 hmk
  obtain ⟨m, hm1⟩ := map_get st7.hm hmk hmi age
  obtain ⟨k1, es1, hm2, hmi2⟩ := map_put st7.hm hmk hmi age (IntKind.i64.wrap (m - 1))
  obtain ⟨st8, fm8⟩ := st7.putm fm7.wf (c := k1) hmi2
  simp only at hm1 hm2 st8 fm8
  obtain ⟨H8, hH8⟩ : ∃ H8, H8 = H7.put D.mb (mcells k1 es1) := ⟨_, rfl⟩
  rw [← hH8] at hm2 st8 fm8
  have l83 := st8.l3
  obtain ⟨k2, es2, hmk2, hmi3⟩ := st8.mp
  simp only at l83 hmk2
  obtain ⟨m2, hm3⟩ := map_get st8.hm hmk2 hmi3 age
  obtain ⟨k3, es3, hm4, hmi4⟩ := map_del st8.hm hmk2 hmi3 age
  obtain ⟨st9, fm9⟩ := st8.putm fm8.wf (c := k3) hmi4
  simp only at hm3 hm4 st9 fm9
  have sc' : sStore H4 1 (.pointer (some ⟨D.cb, a, none⟩)) (.slice ax n' cx) = some H7 := by rw [sStore_slice, ← hx']; exact sc
  have e1 : IntKind.i64.wrap ((i : Int) + 1) = ((i + 1 : Nat) : Int) := by rw [w64 _ (by omega)]; omega
  obtain ⟨iN, hiN⟩ : ∃ n : Nat, n = i + 1 := ⟨_, rfl⟩
  rw [← hiN] at e1 s53 ap
  have ix : sIdx 2 x (iv i) = some (.pointer (some ⟨b0, i * 2, none⟩)) := by
    rw [hxb, sIdx_s, if_pos (by omega)]
    simp
  by_cases hz : m2 = 0
  · refine ⟨_, fb', x', ?_, st9, ((fm1.trans fm7).trans fm8).trans fm9⟩
    refine T_eq hm light9 ?_
    simp [L9]
    refine goT_of iT ?_
    simp
    refine goT_of pT ?_
    simp [h.l2, ha, haI, lc, h.l0, ix, l1]
    refine goT_of tB ?_
    simp [l12, ha, haI, s49, e1, s53, ap, l42, sc', l73, hm1, hm2, l83, hm3, hm4, hz]
  · refine ⟨_, fb', x', ?_, st8, (fm1.trans fm7).trans fm8⟩
    refine T_eq hm light9 ?_
    simp [L9]
    refine goT_of iT ?_
    simp
    refine goT_of pT ?_
    simp [h.l2, ha, haI, lc, h.l0, ix, l1]
    refine goT_of tB ?_
    simp [l12, ha, haI, s49, e1, s53, ap, l42, sc', l73, hm1, hm2, l83, hm3, hm4, hz]
end Go.Proofs.Ythclcdboialfnaa
