/-
  Chapter 21: what becomes of a store where one of its parts is put anew. Chapter 21: Put. Chapter 21: Drop.
-/
import Derived.Test.YthclcdboialfnaaSeatA
namespace Go.Proofs.Ythclcdboialfnaa
open Go.Ot Go.RowKit
set_option linter.unusedSimpArgs false
set_option linter.unusedVariables false
/-- A store's own blocks. -/
def Mine (p : Nat) (D : SD) (b : Nat) : Prop := b = p ∨ b = D.pa ∨ b = D.fb ∨ b = D.ub ∨ b = D.vb ∨ b = D.cb ∨ b = D.mb ∨ ∃ x ∈ D.xs, blkOf x = some b
/-- Nothing but a store's own changes; what it has later it had, or it is new. -/
structure Fm (H H' : Heap) (p : Nat) (D D' : SD) : Prop where
  wf : H'.WF
  base : H'.base = H.base
  next : H.next ≤ H'.next
  keep : ∀ b, b < H.next → ¬ Mine p D b → H'.blk b = H.blk b
  new : ∀ b, Mine p D' b → Mine p D b ∨ H.next ≤ b
theorem Fm.refl {H : Heap} (hw : H.WF) (p : Nat) (D : SD) : Fm H H p D D := ⟨hw, rfl, Nat.le_refl _, fun _ _ _ => rfl, fun _ h => .inl h⟩
theorem Fm.trans {H H1 H2 : Heap} {p : Nat} {D D1 D2 : SD} (a : Fm H H1 p D D1) (b : Fm H1 H2 p D1 D2) : Fm H H2 p D D2 := by
  refine ⟨b.wf, b.base.trans a.base, Nat.le_trans a.next b.next, fun c hc hm => ?_, fun c hm => ?_⟩
  · rw [b.keep c (Nat.lt_of_lt_of_le hc a.next) (fun h => by
      rcases a.new c h with h | h
      · exact hm h
      · omega), a.keep c hc hm]
  · rcases b.new c hm with h | h
    · exact a.new c h
    · exact .inr (Nat.le_trans a.next h)
/-- Blocks of unlike kinds are unlike. -/
theorem blk_ne {H : Heap} {b b' ty ty' sz sz' : Nat} {cs cs' : List Value} (h1 : H.blk b = some ⟨ty, sz, cs⟩) (h2 : H.blk b' = some ⟨ty', sz', cs'⟩) (hn : ty ≠ ty') : b ≠ b' := by
  intro e; rw [e, h2] at h1; cases h1; exact hn rfl
section
variable {H : Heap} {p : Nat} {D : SD} (h : ST H p D)
include h
theorem ST.ty {b : Nat} (hb : Mine p D b) : ∃ ty sz cs, H.blk b = some ⟨ty, sz, cs⟩ := by
  rcases hb with rfl | rfl | rfl | rfl | rfl | rfl | rfl | ⟨x, hx, hb⟩
  · exact ⟨_, _, _, h.bp⟩
  · exact ⟨_, _, _, h.ar.bp⟩
  · obtain ⟨r, hr⟩ := h.ar.bf; exact ⟨_, _, _, hr⟩
  · exact ⟨_, _, _, h.ar.bu⟩
  · exact ⟨_, _, _, h.bv⟩
  · exact ⟨_, _, _, h.bc⟩
  · obtain ⟨c, es, hm, _⟩ := h.mp; exact ⟨_, _, _, hm⟩
  · obtain ⟨i, hi, rfl⟩ := List.mem_iff_getElem.1 hx
    rcases h.cn i hi (by rw [← h.len]; exact hi) with ⟨e, _⟩ | ⟨b', c, rest, e, _, _, hk⟩
    · rw [e] at hb; cases hb
    · rw [e] at hb; cases hb; exact ⟨_, _, _, hk⟩
theorem ST.lt (hw : H.WF) {b : Nat} (hb : Mine p D b) : b < H.next := by obtain ⟨_, _, _, hk⟩ := h.ty hb; exact hw.lt hk
theorem ST.chk {i : Nat} (hi : i < D.xs.length) {b : Nat} (hb : blkOf D.xs[i] = some b) : ∃ cs, H.blk b = some ⟨65, 2, cs⟩ := by
  rcases h.cn i hi (by rw [← h.len]; exact hi) with ⟨e, _⟩ | ⟨b', c, rest, e, _, _, hk⟩
  · rw [e] at hb; cases hb
  · rw [e] at hb; cases hb; exact ⟨_, hk⟩
/-- The values put anew. -/
theorem ST.putv (hw : H.WF) (vals : List Int) (hl : vals.length = D.vals.length) : ST (H.put D.vb (vals.map iv)) p { D with vals := vals } ∧ Fm H (H.put D.vb (vals.map iv)) p D { D with vals := vals } := by
  obtain ⟨r, hr⟩ := h.ar.bf
  obtain ⟨c, es, hmk, hmi⟩ := h.mp
  have n1 := blk_ne h.bp h.bv (by decide)
  have n2 := blk_ne h.ar.bp h.bv (by decide)
  have n3 := blk_ne hr h.bv (by decide)
  have n4 := blk_ne h.ar.bu h.bv (by decide)
  have n5 := blk_ne h.bc h.bv (by decide)
  have n6 := blk_ne hmk h.bv (by decide)
  refine ⟨⟨by simpa using h.hp, by simp [n1, h.bp, hl], h.ar.keep (by simp) (by simp [n2]) (by simp [n3]) (by simp [n4]), by simpa using h.hv, by simp [h.bv], by simpa using h.hc, by simp [n5, h.bc], by simpa using h.hm, ⟨c, es, by simp [n6, hmk], hmi⟩, h.len, fun i h1 h2 => (h.cn i h1 h2).keep (by simp) (fun b hb => ?_), h.apart⟩, ⟨WF_put hw _ _, rfl, Nat.le_refl _, fun b hb hm => ?_, fun b hm => .inl hm⟩⟩
  · obtain ⟨cs, hk⟩ := h.chk h1 hb
    have := blk_ne hk h.bv (by decide)
    simp [this]
  · have : b ≠ D.vb := fun e => hm (by rw [e]; unfold Mine; simp)
    simp [this]
/-- The map put anew. -/
theorem ST.putm (hw : H.WF) {c : Nat} {es : List MEnt} {mc : Int → Int} (hes : MapW es mc c) (hcl : Cln es mc) : ST (H.put D.mb (mcells c es)) p { D with mc := mc } ∧ Fm H (H.put D.mb (mcells c es)) p D { D with mc := mc } := by
  obtain ⟨r, hr⟩ := h.ar.bf
  obtain ⟨c0, es0, hmk, hmi⟩ := h.mp
  have n1 := blk_ne h.bp hmk (by decide)
  have n2 := blk_ne h.ar.bp hmk (by decide)
  have n3 := blk_ne hr hmk (by decide)
  have n4 := blk_ne h.ar.bu hmk (by decide)
  have n5 := blk_ne h.bc hmk (by decide)
  have n6 := blk_ne h.bv hmk (by decide)
  refine ⟨⟨by simpa using h.hp, by simp [n1, h.bp], h.ar.keep (by simp) (by simp [n2]) (by simp [n3]) (by simp [n4]), by simpa using h.hv, by simp [n6, h.bv], by simpa using h.hc, by simp [n5, h.bc], by simpa using h.hm, ⟨c, es, by simp [hmk], hes, hcl⟩, h.len, fun i h1 h2 => (h.cn i h1 h2).keep (by simp) (fun b hb => ?_), h.apart⟩, ⟨WF_put hw _ _, rfl, Nat.le_refl _, fun b hb hm => ?_, fun b hm => .inl hm⟩⟩
  · obtain ⟨cs, hk⟩ := h.chk h1 hb
    have := blk_ne hk hmk (by decide)
    simp [this]
  · have : b ≠ D.mb := fun e => hm (by rw [e]; unfold Mine; simp)
    simp [this]
/-- The arena changed. -/
theorem ST.arena {H' : Heap} (hw' : H'.WF) (hb : H'.base = H.base) (hn : H.next ≤ H'.next) {fb' : Nat} {fr' : List Int} {us' : List Bool} (hw : H.WF) (ar : AR H' D.pa fb' D.ub fr' us') (hf : fb' = D.fb ∨ H.next ≤ fb') (sm : Same H H' [D.pa, D.fb, D.ub]) : ST H' p { D with fb := fb', fr := fr', us := us' } ∧ Fm H H' p D { D with fb := fb', fr := fr', us := us' } := by
  obtain ⟨r, hr⟩ := h.ar.bf
  obtain ⟨c0, es0, hmk, hmi⟩ := h.mp
  have hB := B_eq hb
  have st : ∀ {b ty sz : Nat} {cs : List Value}, H.blk b = some ⟨ty, sz, cs⟩ → ty ≠ 86 → ty ≠ 3 → ty ≠ 4 → H'.blk b = some ⟨ty, sz, cs⟩ := by
    intro b ty sz cs hk t1 t2 t3
    have m1 := blk_ne hk h.ar.bp t1
    have m2 := blk_ne hk hr t2
    have m3 := blk_ne hk h.ar.bu t3
    rw [sm b (hw.lt hk) (by simp [m1, m2, m3]), hk]
  refine ⟨⟨by rw [hB]; exact h.hp, st h.bp (by decide) (by decide) (by decide), ar, by rw [hB]; exact h.hv, st h.bv (by decide) (by decide) (by decide), by rw [hB]; exact h.hc, st h.bc (by decide) (by decide) (by decide), by rw [hB]; exact h.hm, ⟨c0, es0, st hmk (by decide) (by decide) (by decide), hmi⟩, h.len, fun i h1 h2 => (h.cn i h1 h2).keep hB (fun b hb => ?_), h.apart⟩, ⟨hw', hb, hn, fun b hb hm => ?_, fun b hm => ?_⟩⟩
  · obtain ⟨cs, hk⟩ := h.chk h1 hb
    rw [st hk (by decide) (by decide) (by decide), hk]
  · refine sm b hb ?_
    simp only [List.mem_cons, List.not_mem_nil, or_false, not_or]
    exact ⟨fun e => hm (by rw [e]; unfold Mine; simp), fun e => hm (by rw [e]; unfold Mine; simp), fun e => hm (by rw [e]; unfold Mine; simp)⟩
  · unfold Mine at hm ⊢
    simp only at hm
    rcases hm with e | e | e | e | e | e | e | e
    · exact .inl (.inl e)
    · exact .inl (.inr (.inl e))
    · rcases hf with f | f
      · exact .inl (.inr (.inr (.inl (by rw [e, f]))))
      · exact .inr (by rw [e]; exact f)
    · exact .inl (.inr (.inr (.inr (.inl e))))
    · exact .inl (.inr (.inr (.inr (.inr (.inl e)))))
    · exact .inl (.inr (.inr (.inr (.inr (.inr (.inl e))))))
    · exact .inl (.inr (.inr (.inr (.inr (.inr (.inr (.inl e)))))))
    · exact .inl (.inr (.inr (.inr (.inr (.inr (.inr (.inr e)))))))
/-- A chain put anew. -/
theorem ST.chain {H' : Heap} (hw' : H'.WF) (hb : H'.base = H.base) (hn : H.next ≤ H'.next) (hw : H.WF) {a : Nat} (ha : a < D.xs.length) {x' : Value} {l' : List Lk}
    (keep : ∀ b, b < H.next → blkOf D.xs[a] ≠ some b → H'.blk b = H.blk b) (cn' : Chn H' x' l') (new : ∀ b, blkOf x' = some b → H.next ≤ b ∨ blkOf D.xs[a] = some b) :
    ST (H'.put D.cb (D.xs.set a x')) p { D with xs := D.xs.set a x', ch := D.ch.set a l' } ∧ Fm H (H'.put D.cb (D.xs.set a x')) p D { D with xs := D.xs.set a x', ch := D.ch.set a l' } := by
  obtain ⟨r, hr⟩ := h.ar.bf
  obtain ⟨c0, es0, hmk, hmi⟩ := h.mp
  have hB : (H'.put D.cb (D.xs.set a x')).B = H.B := by simpa using B_eq hb
  have oldc : ∀ {b ty sz : Nat} {cs : List Value}, H.blk b = some ⟨ty, sz, cs⟩ → ty ≠ 65 → H'.blk b = some ⟨ty, sz, cs⟩ := by
    intro b ty sz cs hk t
    rw [keep b (hw.lt hk) (fun e => by
      obtain ⟨cs', hk'⟩ := h.chk ha e
      exact blk_ne hk hk' t rfl), hk]
  have st : ∀ {b ty sz : Nat} {cs : List Value}, H.blk b = some ⟨ty, sz, cs⟩ → ty ≠ 65 → ty ≠ 66 → (H'.put D.cb (D.xs.set a x')).blk b = some ⟨ty, sz, cs⟩ := by
    intro b ty sz cs hk t t2
    have := blk_ne hk h.bc t2
    simp [this, oldc hk t]
  have cbk : H'.blk D.cb = some ⟨66, 1, D.xs⟩ := oldc h.bc (by decide)
  have cbn := hw.lt h.bc
  have new' : ∀ b, blkOf x' = some b → b ≠ D.cb := by
    intro b hb' e
    rcases new b hb' with f | f
    · omega
    · obtain ⟨cs', hk'⟩ := h.chk ha f
      exact blk_ne hk' h.bc (by decide) e
  refine ⟨⟨by rw [hB]; exact h.hp, ?_, h.ar.keep hB ?_ ?_ ?_, by rw [hB]; exact h.hv, st h.bv (by decide) (by decide), by rw [hB]; exact h.hc, by simp [cbk], by rw [hB]; exact h.hm, ⟨c0, es0, st hmk (by decide) (by decide), hmi⟩, by simpa using h.len, fun i h1 h2 => ?_, fun i j hi hj b hij hb1 => ?_⟩, ⟨WF_put hw' _ _, hb, hn, fun b hb1 hm => ?_, fun b hm => ?_⟩⟩
  · simpa using st h.bp (by decide) (by decide)
  · rw [st h.ar.bp (by decide) (by decide), h.ar.bp]
  · rw [st hr (by decide) (by decide), hr]
  · rw [st h.ar.bu (by decide) (by decide), h.ar.bu]
  · simp only [List.length_set] at h1 h2
    simp only [List.getElem_set]
    by_cases hia : a = i
    · simp only [hia, if_true]
      exact cn'.keep (by simp) (fun b hb1 => by simp [new' b hb1])
    · simp only [hia, if_false]
      refine (h.cn i h1 h2).keep hB (fun b hb1 => ?_)
      obtain ⟨cs', hk'⟩ := h.chk h1 hb1
      have m1 := blk_ne hk' h.bc (by decide)
      have m2 : blkOf D.xs[a] ≠ some b := fun e => h.apart a i ha h1 b hia e hb1
      simp [m1, keep b (hw.lt hk') m2]
  · simp only [List.length_set] at hi hj
    simp only [List.getElem_set] at hb1 ⊢
    by_cases hia : a = i
    · simp only [hia, if_true] at hb1
      have hja : ¬ a = j := by omega
      simp only [hja, if_false]
      intro e
      rcases new b hb1 with f | f
      · obtain ⟨cs', hk'⟩ := h.chk hj e
        have := hw.lt hk'
        omega
      · exact h.apart a j ha hj b hja f e
    · simp only [hia, if_false] at hb1
      by_cases hja : a = j
      · simp only [hja, if_true]
        intro e
        rcases new b e with f | f
        · obtain ⟨cs', hk'⟩ := h.chk hi hb1
          have := hw.lt hk'
          omega
        · exact h.apart a i ha hi b hia f hb1
      · simp only [hja, if_false]
        exact h.apart i j hi hj b hij hb1
  · have m1 : b ≠ D.cb := fun e => hm (by rw [e]; unfold Mine; simp)
    have m2 : blkOf D.xs[a] ≠ some b := fun e => hm (by unfold Mine; exact .inr (.inr (.inr (.inr (.inr (.inr (.inr ⟨_, List.getElem_mem ha, e⟩)))))))
    simp [m1, keep b hb1 m2]
  · unfold Mine at hm ⊢
    simp only at hm
    rcases hm with e | e | e | e | e | e | e | ⟨y, hy, e⟩
    · exact .inl (.inl e)
    · exact .inl (.inr (.inl e))
    · exact .inl (.inr (.inr (.inl e)))
    · exact .inl (.inr (.inr (.inr (.inl e))))
    · exact .inl (.inr (.inr (.inr (.inr (.inl e)))))
    · exact .inl (.inr (.inr (.inr (.inr (.inr (.inl e))))))
    · exact .inl (.inr (.inr (.inr (.inr (.inr (.inr (.inl e)))))))
    · rcases List.mem_or_eq_of_mem_set hy with hy | rfl
      · exact .inl (.inr (.inr (.inr (.inr (.inr (.inr (.inr ⟨y, hy, e⟩)))))))
      · rcases new b e with f | f
        · exact .inr f
        · exact .inl (.inr (.inr (.inr (.inr (.inr (.inr (.inr ⟨_, List.getElem_mem ha, f⟩)))))))
end
end Go.Proofs.Ythclcdboialfnaa
namespace Go.Proofs.Ythclcdboialfnaa
open Go.Ot Go.RowKit
set_option linter.unusedSimpArgs false
set_option linter.unusedVariables false
theorem put_out {H : Heap} {p : Nat} {D : SD} (h : ST H p D) {a age v : Int} (hi : inV D a = false) : T Try.prog 8 [ptr p, iv a, iv age, iv v] H (iv 131) H := by
  refine T_eq hm light8 ?_
  have iT := inside_T h a
  rw [hi] at iT
  simp [L8]
  refine goT_of iT ?_
  simp
theorem put_age {H : Heap} {p : Nat} {D : SD} (h : ST H p D) {a age v : Int} (hi : inV D a = true) (h0 : age < 0) : T Try.prog 8 [ptr p, iv a, iv age, iv v] H (iv 210) H := by
  refine T_eq hm light8 ?_
  have iT := inside_T h a
  rw [hi] at iT
  simp [L8]
  refine goT_of iT ?_
  simp [h0]
def ins (l : List Lk) (i : Nat) (q : Lk) : List Lk := l.take i ++ [q] ++ l.drop i
theorem Chn.app {H : Heap} (hw : H.WF) {x : Value} {l : List Lk} (h : Chn H x l) (hl : l.length ≤ 1000000) :
    ∃ H4, sAppend (H.new 65 2 [iv 0, iv 0]) 65 2 16 x (.slice (some ⟨H.next, 0, none⟩) 1 0) = some (.slice (some ⟨H.next + 1, 0, none⟩) (l.length + 1) 0, H4) ∧ Vr H4 (H.next + 1) 65 2 (lk l ++ [iv 0, iv 0]) ∧ H4.WF ∧ H4.base = H.base ∧ H4.next = H.next + 2 ∧ ∀ b, b < H.next → blkOf x ≠ some b → H4.blk b = H.blk b := by
  have hnB := hw.next_ge
  have o : On H (H.new 65 2 [iv 0, iv 0]) := (On.refl hw).new _ _ _
  have hs : srcCells (H.new 65 2 [iv 0, iv 0]) 2 (.slice (some ⟨H.next, 0, none⟩) 1 0) = some (1, [iv 0, iv 0]) := by
    rw [src_at (ety := 65) (cs := [iv 0, iv 0]) (by simpa using hnB) (by simp) (by simp)]
    simp
  have hll := lk_len l
  have nB1 : ¬ (H.next + 1) < H.B := by omega
  rcases h with ⟨rfl, rfl⟩ | ⟨b, c, rest, rfl, hc, hB, hk⟩
  · refine ⟨_, by rw [append_nil hs (by decide) (by decide)]; simp; rfl, ⟨by simpa using nB1, by simp [lk], by decide⟩, WF_new o.wf _ _ _, rfl, rfl, fun b hb _ => ?_⟩
    simp [show b ≠ H.next + 1 by omega, show b ≠ H.next by omega]
  · have hblt := hw.lt hk
    have hk' : (H.new 65 2 [iv 0, iv 0]).blk b = some ⟨65, 2, lk l ++ rest⟩ := by simp [show b ≠ H.next by omega, hk]
    rcases hc with rfl | rfl
    · refine ⟨_, by rw [append_own hk' hs (by decide) (by omega) (by simp; omega)]; simp; rfl, ⟨by simpa using nB1, by simp [← hll], by decide⟩, WF_new (WF_kill o.wf _) _ _ _, by simp, by simp, fun b' hb' hx => ?_⟩
      have : b' ≠ b := fun e => hx (by rw [e]; rfl)
      simp [show b' ≠ H.next + 1 by omega, this, show b' ≠ H.next by omega]
    · have hld : (H.new 65 2 [iv 0, iv 0]).loadN ⟨b, 0, none⟩ 0 (l.length * 2) = some (lk l) := by
        rw [loadN_at (by simpa using hB) hk' (by simp; omega)]
        simp [← hll]
      have hbd : (l.length + 1) * 16 ≤ 140737488355328 := by omega
      refine ⟨(H.new 65 2 [iv 0, iv 0]).new 65 2 (lk l ++ [iv 0, iv 0]), by simp only [sAppend, hs, Option.bind_some]; simp [hld, hbd], ⟨by simpa using nB1, by simp, by decide⟩, WF_new o.wf _ _ _, rfl, rfl, fun b' hb' _ => ?_⟩
      simp [show b' ≠ H.next + 1 by omega, show b' ≠ H.next by omega]
theorem put_there {H : Heap} (hw : H.WF) {p W R : Nat} {D : SD} (h : ST H p D) (pl : PK D W R) {a : Nat} (ha : a < D.xs.length) (ha' : a < D.ch.length) {age v : Int} (h0 : 0 ≤ age) {i : Nat} (hP : PlaceV D.ch[a] age i) (hi : i < D.ch[a].length) (hq : D.ch[a][i].1 = age)
    (pT : T Try.prog 20 [ptr p, iv a, iv age] H (.tuple #[iv i, .bool true]) H) :
    T Try.prog 8 [ptr p, iv a, iv age, iv v] H (iv 0) (H.put D.vb ((D.vals.set D.ch[a][i].2.toNat v).map iv)) := by
  have pR := pl.R1
  have hll := pl.long a ha'
  have iT := inside_T h (a : Int)
  have hin : inV D (a : Int) = true := by simp [inV, ha]
  rw [hin] at iT
  have haI : (a : Int) < (D.xs.length : Int) := by omega
  have h0' : ¬ age < 0 := by omega
  have lc := h.lc ha
  obtain ⟨own, hown⟩ := pl.own
  have hqo := hown a ha' _ (List.getElem_mem hi)
  obtain ⟨b, c, hxb, _, l1, _⟩ := (h.cn a ha ha').get hi
  rw [hxb] at lc
  simp only [Nat.zero_add] at l1
  obtain ⟨n, hn⟩ : ∃ n, n = D.ch[a].length := ⟨_, rfl⟩
  obtain ⟨q2, hq2⟩ : ∃ q2, q2 = D.ch[a][i].2 := ⟨_, rfl⟩
  rw [← hq2] at l1 hqo ⊢
  rw [← hn] at lc hi
  obtain ⟨s, hs⟩ : ∃ s, s = q2.toNat := ⟨_, rfl⟩
  have eqs : q2 = (s : Int) := by omega
  rw [eqs] at l1
  rw [← hs]
  have hsR : s < D.vals.length := by rw [pl.hR]; omega
  have hsI : (s : Int) < (D.vals.length : Int) := by omega
  have hiI : (i : Int) < (n : Int) := by omega
  have vv : Vr H D.vb 2 1 (D.vals.map iv) := ⟨h.hv, h.bv, by decide⟩
  have st := vv.store s (iv v) (by simpa using hsR)
  rw [← List.map_set] at st
  refine T_eq hm light8 ?_
  simp [L8]
  refine goT_of iT ?_
  simp [h0']
  refine goT_of pT ?_
  simp [h.l1, h.l2, ha, haI, lc, hi, hiI, l1, hsR, hsI, st]
theorem put_new {H : Heap} (hw : H.WF) {p W R : Nat} {D : SD} (h : ST H p D) (pl : PK D W R) {a : Nat} (ha : a < D.xs.length) (ha' : a < D.ch.length) {age v : Int} (h0 : 0 ≤ age) {i : Nat} (hi : i ≤ D.ch[a].length)
    (pT : T Try.prog 20 [ptr p, iv a, iv age] H (.tuple #[iv i, .bool false]) H) {fr' : List Int} {s : Int} (hfr : D.fr = fr' ++ [s]) (hmc : 0 ≤ D.mc age ∧ D.mc age ≤ 1000) :
    ∃ H' x', T Try.prog 8 [ptr p, iv a, iv age, iv v] H (iv 0) H' ∧ ST H' p { D with fr := fr', us := D.us.set s.toNat true, vals := D.vals.set s.toNat v, xs := D.xs.set a x', ch := D.ch.set a (ins D.ch[a] i (age, s)), mc := upd D.mc age (D.mc age + 1) } ∧
      Fm H H' p D { D with fr := fr', us := D.us.set s.toNat true, vals := D.vals.set s.toNat v, xs := D.xs.set a x', ch := D.ch.set a (ins D.ch[a] i (age, s)), mc := upd D.mc age (D.mc age + 1) } := by
  have pR := pl.R1
  have hll := pl.long a ha'
  have sok := pl.frok s (by rw [hfr]; simp)
  have frl : fr'.length < 1000 := by
    have := pl.frR
    rw [hfr] at this
    simp at this
    omega
  have iT := inside_T h (a : Int)
  have hin : inV D (a : Int) = true := by simp [inV, ha]
  rw [hin] at iT
  have haI : (a : Int) < (D.xs.length : Int) := by omega
  have h0' : ¬ age < 0 := by omega
  have ar := h.ar
  rw [hfr] at ar
  obtain ⟨v1, H1, tT, rfl, ar1, sm1⟩ := take_T ar (s := s) (by rw [pl.hu]; omega) frl
  have hw1 := tT.2.2.1 hw
  obtain ⟨st1, fm1⟩ := h.arena hw1 tT.1 tT.2.1 hw ar1 (.inl rfl) (sm1.mono (by simp))
  obtain ⟨sn, hsn⟩ : ∃ sn, sn = s.toNat := ⟨_, rfl⟩
  have eqs : s = (sn : Int) := by omega
  rw [← hsn] at st1 fm1 ⊢
  have hsR : sn < D.vals.length := by rw [pl.hR]; omega
  have hsI : (sn : Int) < (D.vals.length : Int) := by omega
  have l11 := st1.l1
  simp only at l11
  have vv : Vr H1 D.vb 2 1 (D.vals.map iv) := ⟨st1.hv, st1.bv, by decide⟩
  have sv := vv.store sn (iv v) (by simpa using hsR)
  rw [← List.map_set] at sv
  obtain ⟨st2, fm2⟩ := st1.putv hw1 (D.vals.set sn v) (by simp)
  simp only at st2 fm2
  obtain ⟨H2, hH2⟩ : ∃ H2, H2 = H1.put D.vb ((D.vals.set sn v).map iv) := ⟨_, rfl⟩
  rw [← hH2] at sv st2 fm2
  have hw2 := fm2.wf
  have l22 := st2.l2
  have lc2 := st2.lc ha
  have cn2 := st2.cn a ha ha'
  simp only at l22 lc2 cn2
  obtain ⟨l, hl⟩ : ∃ l, l = D.ch[a] := ⟨_, rfl⟩
  obtain ⟨x, hx⟩ : ∃ x, x = D.xs[a] := ⟨_, rfl⟩
  rw [← hl, ← hx] at cn2
  rw [← hx] at lc2
  rw [← hl] at hi hll ⊢
  obtain ⟨H4, ap, vN, hw4, b4, n4, k4⟩ := cn2.app hw2 (by omega)
  obtain ⟨N, hN⟩ : ∃ N, N = H2.next + 1 := ⟨_, rfl⟩
  rw [← hN] at ap vN
  obtain ⟨A, hA⟩ : ∃ A, A = lk (l.take i) := ⟨_, rfl⟩
  obtain ⟨B, hB⟩ : ∃ B, B = lk (l.drop i) := ⟨_, rfl⟩
  have hAl : A.length = i * 2 := by rw [hA, lk_len, List.length_take]; omega
  have hBl : B.length = (l.length - i) * 2 := by rw [hB, lk_len, List.length_drop]
  have hAB : lk l = A ++ B := by rw [hA, hB, ← lk_append, List.take_append_drop]
  rw [hAB] at vN
  have cp := vr_copy (c1 := 2) (c2 := if i = 0 then 0 else 2) vN hAl hBl rfl hi
  obtain ⟨c5, hc5⟩ : ∃ c5, c5 = (A ++ B ++ [iv 0, iv 0]).take ((i + 1) * 2) ++ B := ⟨_, rfl⟩
  rw [← hc5] at cp
  have hl5 : ((A ++ B ++ [iv 0, iv 0]).take ((i + 1) * 2)).length = (i + 1) * 2 := by rw [List.length_take]; simp; omega
  have v5 := vN.put c5
  have sN : sStore (H4.put N c5) 2 (.pointer (some ⟨N, i * 2, none⟩)) (.agg #[iv age, iv sn]) = some (H4.put N (A ++ [iv age, iv sn] ++ B)) := by
    rw [sStore_agg (H4.put N c5) ⟨N, i * 2, none⟩ 2 [iv age, iv sn] rfl (by decide), storeN_at v5.hq v5.bq (by simp [hc5, hl5]; omega) v5.hn, put_put]
    simp only [Nat.add_zero, Option.some.injEq]
    congr 1
    rw [hc5, List.take_append_of_le_length (by omega), List.take_take, show min (i * 2) ((i + 1) * 2) = i * 2 by omega, List.append_assoc A B, List.take_left' hAl]
    congr 1
    rw [show i * 2 + [iv age, iv (sn : Int)].length = (i + 1) * 2 by simp; omega]
    exact List.drop_left' (by rw [← List.append_assoc]; exact hl5)
  obtain ⟨H6, hH6⟩ : ∃ H6, H6 = H4.put N (A ++ [iv age, iv sn] ++ B) := ⟨_, rfl⟩
  have v6 : Vr H6 N 65 2 (A ++ [iv age, iv sn] ++ B) := by rw [hH6]; exact vN.put _
  rw [← hH6] at sN
  have hw6 : H6.WF := by rw [hH6]; exact WF_put hw4 _ _
  have b6 : H6.base = H2.base := by rw [hH6]; exact b4
  have n6 : H6.next = H2.next + 2 := by rw [hH6]; exact n4
  have k6 : ∀ b, b < H2.next → blkOf x ≠ some b → H6.blk b = H2.blk b := by
    intro b hb hxb
    rw [hH6]
    simp [show b ≠ N by omega, k4 b hb hxb]
  obtain ⟨x', hx'⟩ : ∃ x' : Value, x' = .slice (some ⟨N, 0, none⟩) (l.length + 1) 0 := ⟨_, rfl⟩
  have hins : (ins l i (age, (sn : Int))).length = l.length + 1 := by simp [ins]; omega
  have cn6 : Chn H6 x' (ins l i (age, (sn : Int))) := by
    refine .inr ⟨N, 0, [], by rw [hx', hins], .inl rfl, v6.hq, ?_⟩
    rw [v6.bq, List.append_nil]
    congr 2
    unfold ins
    rw [lk_append, lk_append, hA, hB]
    rfl
  have notx : ∀ {b ty sz : Nat} {cs : List Value}, H2.blk b = some ⟨ty, sz, cs⟩ → ty ≠ 65 → blkOf x ≠ some b := by
    intro b ty sz cs hk t e
    rw [hx] at e
    obtain ⟨cs', hk'⟩ := st2.chk ha e
    exact blk_ne hk hk' t rfl
  have B6 := B_eq b6
  have l26 : H6.load ⟨p, 2, none⟩ = some (sl D.cb D.xs.length) := by
    rw [load_at (by rw [B6]; exact st2.hp) (by rw [k6 p (hw2.lt st2.bp) (notx st2.bp (by decide))]; exact st2.bp)]; rfl
  have vc6 : Vr H6 D.cb 66 1 D.xs := ⟨by rw [B6]; exact st2.hc, by rw [k6 _ (hw2.lt st2.bc) (notx st2.bc (by decide))]; exact st2.bc, by decide⟩
  have sc := vc6.store a x' ha
  obtain ⟨st7, fm7⟩ := st2.chain hw6 b6 (by omega) hw2 ha (x' := x') (l' := ins l i (age, (sn : Int))) (by rw [← hx]; exact k6) cn6 (fun b hb => .inl (by rw [hx'] at hb; have : N = b := Option.some.inj hb; omega))
  simp only at st7 fm7
  obtain ⟨H7, hH7⟩ : ∃ H7, H7 = H6.put D.cb (D.xs.set a x') := ⟨_, rfl⟩
  rw [← hH7] at sc st7 fm7
  have l73 := st7.l3
  obtain ⟨c0, es0, hmk, hmi, hcl⟩ := st7.mp
  simp only at l73 hmk hmi hcl
  have hm1 := map_get st7.hm hmk hmi age
  have wm : IntKind.i64.wrap (D.mc age + 1) = D.mc age + 1 := w64 _ (by omega)
  obtain ⟨c1, es1, hm2, hmi2, hky⟩ := map_put st7.hm hmk hmi age (D.mc age + 1)
  have hcl2 : Cln es1 (upd D.mc age (D.mc age + 1)) := by
    intro e he g hg
    by_cases eg : g = age
    · rw [eg, upd_self]; omega
    · rw [upd_ne _ _ eg]
      rcases hky e he g hg with h1 | ⟨e', h1, h2⟩
      · exact absurd h1 eg
      · exact hcl e' h1 g h2
  obtain ⟨st8, fm8⟩ := st7.putm fm7.wf (c := c1) hmi2 hcl2
  simp only at hm1 hm2 st8 fm8
  obtain ⟨H8, hH8⟩ : ∃ H8, H8 = H7.put D.mb (mcells c1 es1) := ⟨_, rfl⟩
  rw [← hH8] at hm2 st8 fm8
  refine ⟨H8, x', ?_, by rw [eqs]; exact st8, by rw [eqs]; exact ((fm1.trans fm2).trans fm7).trans fm8⟩
  have e1 : IntKind.i64.wrap ((i : Int) + 1) = ((i + 1 : Nat) : Int) := by rw [w64 _ (by omega)]; omega
  obtain ⟨iN, hiN⟩ : ∃ n : Nat, n = i + 1 := ⟨_, rfl⟩
  have s79 : sSlice 2 x' (some (iv iN)) none none = some (.slice (some ⟨N, (i + 1) * 2, none⟩) (l.length - i) 2) := by
    rw [hx', sSlice_lo, if_pos (by omega), if_neg (by omega), hiN]
    simp
  have s82 : sSlice 2 x' (some (iv i)) none none = some (.slice (some ⟨N, i * 2, none⟩) (l.length + 1 - i) (if i = 0 then 0 else 2)) := by
    rw [hx', sSlice_lo, if_pos (by omega)]
    simp
  have ix : sIdx 2 x' (iv i) = some (.pointer (some ⟨N, i * 2, none⟩)) := by
    rw [hx', sIdx_s, if_pos (by omega)]
    simp
  rw [← hiN] at e1
  rw [← hx'] at ap
  rw [eqs] at tT
  have hz2 : zerosA [iv 0, iv 0] 2 = [iv 0, iv 0] := rfl
  obtain ⟨ax, cx, hxs⟩ := cn2.len
  have sc' : sStore H6 1 (.pointer (some ⟨D.cb, a, none⟩)) x' = some H7 := by rw [hx'] at sc ⊢; rw [sStore_slice]; exact sc
  refine T_eq hm light8 ?_
  simp [L8]
  refine goT_of iT ?_
  simp [h0']
  refine goT_of pT ?_
  simp [h.l0]
  refine goT_of tT ?_
  simp [l11, hsR, hsI, sv, l22, ha, haI, lc2, hz2, ap, e1, s79, s82, cp, ix, sN, l26, sc', l73, hm1, hm2, wm]
end Go.Proofs.Ythclcdboialfnaa
namespace Go.Proofs.Ythclcdboialfnaa
open Go.Ot Go.RowKit
set_option linter.unusedSimpArgs false
set_option linter.unusedVariables false
theorem drop_out {H : Heap} {p : Nat} {D : SD} (h : ST H p D) {a age : Int} (hi : inV D a = false) : T Try.prog 9 [ptr p, iv a, iv age] H (.bool false) H := by
  refine T_eq hm light9 ?_
  have iT := inside_T h a
  rw [hi] at iT
  simp [L9]
  refine goT_of iT ?_
  simp
theorem drop_none {H : Heap} {p : Nat} {D : SD} (h : ST H p D) {a i : Nat} {age : Int} (ha : a < D.xs.length)
    (pT : T Try.prog 20 [ptr p, iv a, iv age] H (.tuple #[iv i, .bool false]) H) : T Try.prog 9 [ptr p, iv a, iv age] H (.bool false) H := by
  refine T_eq hm light9 ?_
  have iT := inside_T h (a : Int)
  have hin : inV D (a : Int) = true := by simp [inV, ha]
  rw [hin] at iT
  simp [L9]
  refine goT_of iT ?_
  simp
  refine goT_of pT ?_
  simp
theorem Chn.cut {H : Heap} (hw : H.WF) {x : Value} {l : List Lk} (h : Chn H x l) {i : Nat} (hi : i < l.length) (hl : l.length ≤ 1000000) :
    ∃ b c, x = .slice (some ⟨b, 0, none⟩) l.length c ∧ sSlice 2 x none (some (iv i)) (some (iv i)) = some (.slice (some ⟨b, 0, none⟩) i 1) ∧
      sSlice 2 x (some (iv ((i + 1 : Nat) : Int))) none none = some (.slice (some ⟨b, (i + 1) * 2, none⟩) (l.length - (i + 1)) 2) ∧
      ∃ ax n' cx H4, sAppend H 65 2 16 (.slice (some ⟨b, 0, none⟩) i 1) (.slice (some ⟨b, (i + 1) * 2, none⟩) (l.length - (i + 1)) 2) = some (.slice ax n' cx, H4) ∧ Chn H4 (.slice ax n' cx) (l.eraseIdx i) ∧ H4.WF ∧ H4.base = H.base ∧ H.next ≤ H4.next ∧
        (∀ b, b < H.next → H4.blk b = H.blk b) ∧ ∀ b, blkOf (.slice ax n' cx) = some b → H.next ≤ b ∨ blkOf x = some b := by
  have hnB := hw.next_ge
  have hll := lk_len l
  rcases h with ⟨rfl, rfl⟩ | ⟨b, c, rest, rfl, hc, hB, hk⟩
  · simp at hi
  refine ⟨b, c, rfl, ?_, ?_, ?_⟩
  · have : i ≤ l.length := by omega
    simp [sSlice, bnd, Addr.add, this]
  · rw [sSlice_lo, if_pos (by omega), if_neg (by omega)]
    simp
  have he : l.eraseIdx i = l.take i ++ l.drop (i + 1) := List.eraseIdx_eq_take_drop_succ l i
  have hl1 : (lk (l.take i)).length = i * 2 := by rw [lk_len, List.length_take]; omega
  have hl2 : (lk (l.drop (i + 1))).length = (l.length - (i + 1)) * 2 := by rw [lk_len, List.length_drop]
  have hel : (l.eraseIdx i).length = l.length - 1 := by rw [List.length_eraseIdx, if_pos hi]
  have tk : (lk l).take (i * 2) = lk (l.take i) := by
    conv => lhs; rw [← List.take_append_drop i l, lk_append]
    exact List.take_left' hl1
  have dk : (lk l).drop ((i + 1) * 2) = lk (l.drop (i + 1)) := by
    conv => lhs; rw [← List.take_append_drop (i + 1) l, lk_append]
    exact List.drop_left' (by rw [lk_len, List.length_take]; omega)
  have hs : srcCells H 2 (.slice (some ⟨b, (i + 1) * 2, none⟩) (l.length - (i + 1)) 2) = some (l.length - (i + 1), lk (l.drop (i + 1))) := by
    rw [src_at hB hk (by simp; omega), List.drop_append_of_le_length (by omega), dk, List.take_left' hl2]
  by_cases h0 : l.length - (i + 1) = 0
  · rw [h0] at hs ⊢
    refine ⟨some ⟨b, 0, none⟩, i, 1, H, append_none hs (.inl rfl), .inr ⟨b, 1, (lk l ++ rest).drop (i * 2), by rw [hel]; congr 1; omega, .inr rfl, hB, ?_⟩, hw, rfl, Nat.le_refl _, fun _ _ => rfl, fun b' hb' => .inr hb'⟩
    rw [hk, he, List.drop_eq_nil_of_le (by omega), List.append_nil, ← tk]
    congr 2
    rw [← List.take_append_of_le_length (l₂ := rest) (by omega), List.take_append_drop]
  · have hld : H.loadN ⟨b, 0, none⟩ 0 (i * 2) = some (lk (l.take i)) := by
      rw [loadN_at hB hk (by simp; omega)]
      simp only [Nat.add_zero, List.drop_zero]
      rw [List.take_append_of_le_length (by omega), tk]
    have hbd : (i + (l.length - (i + 1))) * 16 ≤ 140737488355328 := by omega
    refine ⟨some ⟨H.next, 0, none⟩, i + (l.length - (i + 1)), 0, H.new 65 2 (lk (l.take i) ++ lk (l.drop (i + 1))), by simp only [sAppend, hs, Option.bind_some]; simp [h0, hld, hbd], .inr ⟨H.next, 0, [], by rw [hel]; congr 1; omega, .inl rfl, by simpa using hnB, ?_⟩, WF_new hw _ _ _, rfl, by simp, fun b' hb' => ?_, fun b' hb' => ?_⟩
    · simp [he, lk_append]
    · simp [show b' ≠ H.next by omega]
    · left
      have : H.next = b' := Option.some.inj hb'
      omega
theorem drop_there {H : Heap} (hw : H.WF) {p W R : Nat} {D : SD} (h : ST H p D) (pl : PK D W R) {a : Nat} (ha : a < D.xs.length) (ha' : a < D.ch.length) {age : Int} {i : Nat} (hi : i < D.ch[a].length)
    (pT : T Try.prog 20 [ptr p, iv a, iv age] H (.tuple #[iv i, .bool true]) H) (hmc : 1 ≤ D.mc age ∧ D.mc age ≤ 1000) :
    ∃ H' fb' x', T Try.prog 9 [ptr p, iv a, iv age] H (.bool true) H' ∧
      ST H' p { D with fb := fb', fr := D.fr ++ [D.ch[a][i].2], us := D.us.set D.ch[a][i].2.toNat false, xs := D.xs.set a x', ch := D.ch.set a (D.ch[a].eraseIdx i), mc := upd D.mc age (D.mc age - 1) } ∧
      Fm H H' p D { D with fb := fb', fr := D.fr ++ [D.ch[a][i].2], us := D.us.set D.ch[a][i].2.toNat false, xs := D.xs.set a x', ch := D.ch.set a (D.ch[a].eraseIdx i), mc := upd D.mc age (D.mc age - 1) } := by
  have pR := pl.R1
  have hll := pl.long a ha'
  obtain ⟨own, hown⟩ := pl.own
  have hqo := hown a ha' _ (List.getElem_mem hi)
  have frR := pl.frR
  have iT := inside_T h (a : Int)
  have hin : inV D (a : Int) = true := by simp [inV, ha]
  rw [hin] at iT
  have haI : (a : Int) < (D.xs.length : Int) := by omega
  have lc := h.lc ha
  have cn := h.cn a ha ha'
  obtain ⟨b0, c0, hxb, _, l1, _⟩ := cn.get hi
  simp only [Nat.zero_add] at l1
  obtain ⟨q2, hq2⟩ : ∃ q2, q2 = D.ch[a][i].2 := ⟨_, rfl⟩
  rw [← hq2] at hqo l1 ⊢
  obtain ⟨l, hl⟩ : ∃ l, l = D.ch[a] := ⟨_, rfl⟩
  obtain ⟨x, hx⟩ : ∃ x, x = D.xs[a] := ⟨_, rfl⟩
  clear hq2
  rw [← hl] at hi hll cn hxb ⊢
  rw [← hx] at lc cn hxb
  have us1 : usedB D.us q2 = true := by
    simp only [usedB, Bool.and_eq_true, decide_eq_true_eq]
    exact ⟨⟨hqo.1, by rw [pl.hu]; exact hqo.2.1⟩, hqo.2.2.1⟩
  obtain ⟨v1, H1, tB, rfl, fb', hfb, ar1, sm1⟩ := back_T hw h.ar (by omega) us1
  have hw1 := tB.2.2.1 hw
  obtain ⟨st1, fm1⟩ := h.arena hw1 tB.1 tB.2.1 hw ar1 (.inr hfb) sm1
  have l12 := st1.l2
  have cn1 := st1.cn a ha ha'
  simp only at l12 cn1
  rw [← hl, ← hx] at cn1
  obtain ⟨b, c, hxs, s49, s53, ax, n', cx, H4, ap, cn4, hw4, b4, n4, k4, blk4⟩ := cn1.cut hw1 hi (by omega)
  obtain ⟨x', hx'⟩ : ∃ x', x' = Value.slice ax n' cx := ⟨_, rfl⟩
  rw [← hx'] at cn4 blk4
  have B4 := B_eq b4
  have vc4 : Vr H4 D.cb 66 1 D.xs := ⟨by rw [B4]; exact st1.hc, by rw [k4 _ (hw1.lt st1.bc)]; exact st1.bc, by decide⟩
  have sc := vc4.store a x' ha
  have l42 : H4.load ⟨p, 2, none⟩ = some (sl D.cb D.xs.length) := by
    rw [load_at (by rw [B4]; exact st1.hp) (by rw [k4 p (hw1.lt st1.bp)]; exact st1.bp)]; rfl
  obtain ⟨st7, fm7⟩ := st1.chain hw4 b4 n4 hw1 ha (x' := x') (l' := l.eraseIdx i) (fun b hb _ => k4 b hb) cn4 (fun b hb => by rw [← hx]; exact blk4 b hb)
  simp only at st7 fm7
  obtain ⟨H7, hH7⟩ : ∃ H7, H7 = H4.put D.cb (D.xs.set a x') := ⟨_, rfl⟩
  rw [← hH7] at sc st7 fm7
  have l73 := st7.l3
  obtain ⟨k0, es0, hmk, hmi, hcl⟩ := st7.mp
  simp only at l73 hmk hmi hcl
  have hm1 := map_get st7.hm hmk hmi age
  have wm : IntKind.i64.wrap (D.mc age - 1) = D.mc age - 1 := w64 _ (by omega)
  obtain ⟨k1, es1, hm2, hmi2, hky⟩ := map_put st7.hm hmk hmi age (D.mc age - 1)
  obtain ⟨H8, hH8⟩ : ∃ H8, H8 = H7.put D.mb (mcells k1 es1) := ⟨_, rfl⟩
  have h7m : ¬ D.mb < H7.B := st7.hm
  have h8m : ¬ D.mb < H8.B := by rw [hH8]; simpa using h7m
  have hmk2 : H8.blk D.mb = some ⟨0, 0, mcells k1 es1⟩ := by rw [hH8]; simp [hmk]
  have hpm : p ≠ D.mb := blk_ne st7.bp hmk (by decide)
  have l83 : H8.load ⟨p, 3, none⟩ = some (.map (some D.mb)) := by
    rw [hH8, load_at (by simpa using st7.hp) (by simp [hpm]; exact st7.bp)]
    rfl
  have hm3 := map_get h8m hmk2 hmi2 age
  rw [upd_self] at hm3
  simp only at hm1 hm2
  rw [← hH8] at hm2
  have sc' : sStore H4 1 (.pointer (some ⟨D.cb, a, none⟩)) (.slice ax n' cx) = some H7 := by rw [sStore_slice, ← hx']; exact sc
  have e1 : IntKind.i64.wrap ((i : Int) + 1) = ((i + 1 : Nat) : Int) := by rw [w64 _ (by omega)]; omega
  obtain ⟨iN, hiN⟩ : ∃ n : Nat, n = i + 1 := ⟨_, rfl⟩
  rw [← hiN] at e1 s53 ap
  have ix : sIdx 2 x (iv i) = some (.pointer (some ⟨b0, i * 2, none⟩)) := by
    rw [hxb, sIdx_s, if_pos (by omega)]
    simp
  by_cases hz : D.mc age - 1 = 0
  · obtain ⟨es3, hm4, hmi4, hky4⟩ := map_del h8m hmk2 hmi2 age (by rw [upd_self, hz])
    have hcl4 : Cln es3 (upd D.mc age (D.mc age - 1)) := by
      intro e he g hg
      obtain ⟨he1, hne⟩ := hky4 e he
      have eg : g ≠ age := fun e2 => hne (by rw [← e2]; exact hg)
      rw [upd_ne _ _ eg]
      rcases hky e he1 g hg with h1 | ⟨e', h1, h2⟩
      · exact absurd h1 eg
      · exact hcl e' h1 g h2
    obtain ⟨st9, fm9⟩ := st7.putm fm7.wf (c := k1) hmi4 hcl4
    simp only at st9 fm9
    obtain ⟨H9, hH9⟩ : ∃ H9, H9 = H7.put D.mb (mcells k1 es3) := ⟨_, rfl⟩
    have e89 : H8.put D.mb (mcells k1 es3) = H9 := by rw [hH8, put_put, hH9]
    rw [e89] at hm4
    rw [← hH9] at st9 fm9
    rw [hz] at hm2 hm3 wm
    refine ⟨_, fb', x', ?_, st9, (fm1.trans fm7).trans fm9⟩
    refine T_eq hm light9 ?_
    simp [L9]
    refine goT_of iT ?_
    simp
    refine goT_of pT ?_
    simp [h.l2, ha, haI, lc, h.l0, ix, l1]
    refine goT_of tB ?_
    simp [l12, ha, haI, s49, e1, s53, ap, l42, sc', l73, hm1, wm, hm2, l83, hm3, hm4, hz]
  · have hcl2 : Cln es1 (upd D.mc age (D.mc age - 1)) := by
      intro e he g hg
      by_cases eg : g = age
      · rw [eg, upd_self]; exact hz
      · rw [upd_ne _ _ eg]
        rcases hky e he g hg with h1 | ⟨e', h1, h2⟩
        · exact absurd h1 eg
        · exact hcl e' h1 g h2
    obtain ⟨st8, fm8⟩ := st7.putm fm7.wf (c := k1) hmi2 hcl2
    simp only at st8 fm8
    rw [← hH8] at st8 fm8
    refine ⟨_, fb', x', ?_, st8, (fm1.trans fm7).trans fm8⟩
    refine T_eq hm light9 ?_
    simp [L9]
    refine goT_of iT ?_
    simp
    refine goT_of pT ?_
    simp [h.l2, ha, haI, lc, h.l0, ix, l1]
    refine goT_of tB ?_
    simp [l12, ha, haI, s49, e1, s53, ap, l42, sc', l73, hm1, wm, hm2, l83, hm3, hz]
end Go.Proofs.Ythclcdboialfnaa
