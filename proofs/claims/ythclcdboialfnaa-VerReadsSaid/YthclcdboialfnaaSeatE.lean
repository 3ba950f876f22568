/-
  Chapter 21: what becomes of a store where one of its parts is put anew.
-/
import Derived.Test.YthclcdboialfnaaSeatD
namespace Go.Proofs.Ythclcdboialfnaa
open Go.Ot Go.RowKit
set_option linter.unusedSimpArgs false
set_option linter.unusedVariables false
/-- A store's own blocks. -/
def Mine (p : Nat) (D : SD) (b : Nat) : Prop := b = p ∨ b = D.pa ∨ b = D.fb ∨ b = D.ub ∨ b = D.vb ∨ b = D.cb ∨ b = D.mb ∨ ∃ x ∈ D.xs, blkOf x = some b
/-- Nothing but a store's own changes; what it has later it had, or it is new. -/
structure Fm (H H' : Heap) (p : Nat) (D D' : SD) : Prop where
  wf : H'.WF
  base : H'.base = H.base
  next : H.next ≤ H'.next
  keep : ∀ b, b < H.next → ¬ Mine p D b → H'.blk b = H.blk b
  new : ∀ b, Mine p D' b → Mine p D b ∨ H.next ≤ b
theorem Fm.refl {H : Heap} (hw : H.WF) (p : Nat) (D : SD) : Fm H H p D D := ⟨hw, rfl, Nat.le_refl _, fun _ _ _ => rfl, fun _ h => .inl h⟩
theorem Fm.trans {H H1 H2 : Heap} {p : Nat} {D D1 D2 : SD} (a : Fm H H1 p D D1) (b : Fm H1 H2 p D1 D2) : Fm H H2 p D D2 := by
  refine ⟨b.wf, b.base.trans a.base, Nat.le_trans a.next b.next, fun c hc hm => ?_, fun c hm => ?_⟩
  · rw [b.keep c (Nat.lt_of_lt_of_le hc a.next) (fun h => by
      rcases a.new c h with h | h
      · exact hm h
      · omega), a.keep c hc hm]
  · rcases b.new c hm with h | h
    · exact a.new c h
    · exact .inr (Nat.le_trans a.next h)
/-- Blocks of unlike kinds are unlike. -/
theorem blk_ne {H : Heap} {b b' ty ty' sz sz' : Nat} {cs cs' : List Value} (h1 : H.blk b = some ⟨ty, sz, cs⟩) (h2 : H.blk b' = some ⟨ty', sz', cs'⟩) (hn : ty ≠ ty') : b ≠ b' := by
  intro e; rw [e, h2] at h1; cases h1; exact hn rfl
section
variable {H : Heap} {p : Nat} {D : SD} (h : ST H p D)
include h
theorem ST.ty {b : Nat} (hb : Mine p D b) : ∃ ty sz cs, H.blk b = some ⟨ty, sz, cs⟩ := by
  rcases hb with rfl | rfl | rfl | rfl | rfl | rfl | rfl | ⟨x, hx, hb⟩
  · exact ⟨_, _, _, h.bp⟩
  · exact ⟨_, _, _, h.ar.bp⟩
  · obtain ⟨r, hr⟩ := h.ar.bf; exact ⟨_, _, _, hr⟩
  · exact ⟨_, _, _, h.ar.bu⟩
  · exact ⟨_, _, _, h.bv⟩
  · exact ⟨_, _, _, h.bc⟩
  · obtain ⟨c, es, hm, _⟩ := h.mp; exact ⟨_, _, _, hm⟩
  · obtain ⟨i, hi, rfl⟩ := List.mem_iff_getElem.1 hx
    rcases h.cn i hi (by rw [← h.len]; exact hi) with ⟨e, _⟩ | ⟨b', c, rest, e, _, _, hk⟩
    · rw [e] at hb; cases hb
    · rw [e] at hb; cases hb; exact ⟨_, _, _, hk⟩
theorem ST.lt (hw : H.WF) {b : Nat} (hb : Mine p D b) : b < H.next := by obtain ⟨_, _, _, hk⟩ := h.ty hb; exact hw.lt hk
theorem ST.chk {i : Nat} (hi : i < D.xs.length) {b : Nat} (hb : blkOf D.xs[i] = some b) : ∃ cs, H.blk b = some ⟨65, 2, cs⟩ := by
  rcases h.cn i hi (by rw [← h.len]; exact hi) with ⟨e, _⟩ | ⟨b', c, rest, e, _, _, hk⟩
  · rw [e] at hb; cases hb
  · rw [e] at hb; cases hb; exact ⟨_, hk⟩
/-- The values put anew. -/
theorem ST.putv (hw : H.WF) (vals : List Int) (hl : vals.length = D.vals.length) : ST (H.put D.vb (vals.map iv)) p { D with vals := vals } ∧ Fm H (H.put D.vb (vals.map iv)) p D { D with vals := vals } := by
  obtain ⟨r, hr⟩ := h.ar.bf
  obtain ⟨c, es, hmk, hmi⟩ := h.mp
  have n1 := blk_ne h.bp h.bv (by decide)
  have n2 := blk_ne h.ar.bp h.bv (by decide)
  have n3 := blk_ne hr h.bv (by decide)
  have n4 := blk_ne h.ar.bu h.bv (by decide)
  have n5 := blk_ne h.bc h.bv (by decide)
  have n6 := blk_ne hmk h.bv (by decide)
  refine ⟨⟨by simpa using h.hp, by simp [n1, h.bp, hl], h.ar.keep (by simp) (by simp [n2]) (by simp [n3]) (by simp [n4]), by simpa using h.hv, by simp [h.bv], by simpa using h.hc, by simp [n5, h.bc], by simpa using h.hm, ⟨c, es, by simp [n6, hmk], hmi⟩, h.len, fun i h1 h2 => (h.cn i h1 h2).keep (by simp) (fun b hb => ?_), h.apart⟩, ⟨WF_put hw _ _, rfl, Nat.le_refl _, fun b hb hm => ?_, fun b hm => .inl hm⟩⟩
  · obtain ⟨cs, hk⟩ := h.chk h1 hb
    have := blk_ne hk h.bv (by decide)
    simp [this]
  · have : b ≠ D.vb := fun e => hm (by rw [e]; unfold Mine; simp)
    simp [this]
/-- The map put anew. -/
theorem ST.putm (hw : H.WF) {c : Nat} {es : List MEnt} (hes : MapI es) : ST (H.put D.mb (mcells c es)) p D ∧ Fm H (H.put D.mb (mcells c es)) p D D := by
  obtain ⟨r, hr⟩ := h.ar.bf
  obtain ⟨c0, es0, hmk, hmi⟩ := h.mp
  have n1 := blk_ne h.bp hmk (by decide)
  have n2 := blk_ne h.ar.bp hmk (by decide)
  have n3 := blk_ne hr hmk (by decide)
  have n4 := blk_ne h.ar.bu hmk (by decide)
  have n5 := blk_ne h.bc hmk (by decide)
  have n6 := blk_ne h.bv hmk (by decide)
  refine ⟨⟨by simpa using h.hp, by simp [n1, h.bp], h.ar.keep (by simp) (by simp [n2]) (by simp [n3]) (by simp [n4]), by simpa using h.hv, by simp [n6, h.bv], by simpa using h.hc, by simp [n5, h.bc], by simpa using h.hm, ⟨c, es, by simp [hmk], hes⟩, h.len, fun i h1 h2 => (h.cn i h1 h2).keep (by simp) (fun b hb => ?_), h.apart⟩, ⟨WF_put hw _ _, rfl, Nat.le_refl _, fun b hb hm => ?_, fun b hm => .inl hm⟩⟩
  · obtain ⟨cs, hk⟩ := h.chk h1 hb
    have := blk_ne hk hmk (by decide)
    simp [this]
  · have : b ≠ D.mb := fun e => hm (by rw [e]; unfold Mine; simp)
    simp [this]
/-- The arena changed. -/
theorem ST.arena {H' : Heap} (hw' : H'.WF) (hb : H'.base = H.base) (hn : H.next ≤ H'.next) {fb' : Nat} {fr' : List Int} {us' : List Bool} (hw : H.WF) (ar : AR H' D.pa fb' D.ub fr' us') (hf : fb' = D.fb ∨ H.next ≤ fb') (sm : Same H H' [D.pa, D.fb, D.ub]) : ST H' p { D with fb := fb', fr := fr', us := us' } ∧ Fm H H' p D { D with fb := fb', fr := fr', us := us' } := by
  obtain ⟨r, hr⟩ := h.ar.bf
  obtain ⟨c0, es0, hmk, hmi⟩ := h.mp
  have hB := B_eq hb
  have st : ∀ {b ty sz : Nat} {cs : List Value}, H.blk b = some ⟨ty, sz, cs⟩ → ty ≠ 86 → ty ≠ 3 → ty ≠ 4 → H'.blk b = some ⟨ty, sz, cs⟩ := by
    intro b ty sz cs hk t1 t2 t3
    have m1 := blk_ne hk h.ar.bp t1
    have m2 := blk_ne hk hr t2
    have m3 := blk_ne hk h.ar.bu t3
    rw [sm b (hw.lt hk) (by simp [m1, m2, m3]), hk]
  refine ⟨⟨by rw [hB]; exact h.hp, st h.bp (by decide) (by decide) (by decide), ar, by rw [hB]; exact h.hv, st h.bv (by decide) (by decide) (by decide), by rw [hB]; exact h.hc, st h.bc (by decide) (by decide) (by decide), by rw [hB]; exact h.hm, ⟨c0, es0, st hmk (by decide) (by decide) (by decide), hmi⟩, h.len, fun i h1 h2 => (h.cn i h1 h2).keep hB (fun b hb => ?_), h.apart⟩, ⟨hw', hb, hn, fun b hb hm => ?_, fun b hm => ?_⟩⟩
  · obtain ⟨cs, hk⟩ := h.chk h1 hb
    rw [st hk (by decide) (by decide) (by decide), hk]
  · refine sm b hb ?_
    simp only [List.mem_cons, List.not_mem_nil, or_false, not_or]
    exact ⟨fun e => hm (by rw [e]; unfold Mine; simp), fun e => hm (by rw [e]; unfold Mine; simp), fun e => hm (by rw [e]; unfold Mine; simp)⟩
  · unfold Mine at hm ⊢
    simp only at hm
    rcases hm with e | e | e | e | e | e | e | e
    · exact .inl (.inl e)
    · exact .inl (.inr (.inl e))
    · rcases hf with f | f
      · exact .inl (.inr (.inr (.inl (by rw [e, f]))))
      · exact .inr (by rw [e]; exact f)
    · exact .inl (.inr (.inr (.inr (.inl e))))
    · exact .inl (.inr (.inr (.inr (.inr (.inl e)))))
    · exact .inl (.inr (.inr (.inr (.inr (.inr (.inl e))))))
    · exact .inl (.inr (.inr (.inr (.inr (.inr (.inr (.inl e)))))))
    · exact .inl (.inr (.inr (.inr (.inr (.inr (.inr (.inr e)))))))
/-- A chain put anew. -/
theorem ST.chain {H' : Heap} (hw' : H'.WF) (hb : H'.base = H.base) (hn : H.next ≤ H'.next) (hw : H.WF) {a : Nat} (ha : a < D.xs.length) {x' : Value} {l' : List Lk}
    (keep : ∀ b, b < H.next → blkOf D.xs[a] ≠ some b → H'.blk b = H.blk b) (cn' : Chn H' x' l') (new : ∀ b, blkOf x' = some b → H.next ≤ b ∨ blkOf D.xs[a] = some b) :
    ST (H'.put D.cb (D.xs.set a x')) p { D with xs := D.xs.set a x', ch := D.ch.set a l' } ∧ Fm H (H'.put D.cb (D.xs.set a x')) p D { D with xs := D.xs.set a x', ch := D.ch.set a l' } := by
  obtain ⟨r, hr⟩ := h.ar.bf
  obtain ⟨c0, es0, hmk, hmi⟩ := h.mp
  have hB : (H'.put D.cb (D.xs.set a x')).B = H.B := by simpa using B_eq hb
  have oldc : ∀ {b ty sz : Nat} {cs : List Value}, H.blk b = some ⟨ty, sz, cs⟩ → ty ≠ 65 → H'.blk b = some ⟨ty, sz, cs⟩ := by
    intro b ty sz cs hk t
    rw [keep b (hw.lt hk) (fun e => by
      obtain ⟨cs', hk'⟩ := h.chk ha e
      exact blk_ne hk hk' t rfl), hk]
  have st : ∀ {b ty sz : Nat} {cs : List Value}, H.blk b = some ⟨ty, sz, cs⟩ → ty ≠ 65 → ty ≠ 66 → (H'.put D.cb (D.xs.set a x')).blk b = some ⟨ty, sz, cs⟩ := by
    intro b ty sz cs hk t t2
    have := blk_ne hk h.bc t2
    simp [this, oldc hk t]
  have cbk : H'.blk D.cb = some ⟨66, 1, D.xs⟩ := oldc h.bc (by decide)
  have cbn := hw.lt h.bc
  have new' : ∀ b, blkOf x' = some b → b ≠ D.cb := by
    intro b hb' e
    rcases new b hb' with f | f
    · omega
    · obtain ⟨cs', hk'⟩ := h.chk ha f
      exact blk_ne hk' h.bc (by decide) e
  refine ⟨⟨by rw [hB]; exact h.hp, ?_, h.ar.keep hB ?_ ?_ ?_, by rw [hB]; exact h.hv, st h.bv (by decide) (by decide), by rw [hB]; exact h.hc, by simp [cbk], by rw [hB]; exact h.hm, ⟨c0, es0, st hmk (by decide) (by decide), hmi⟩, by simpa using h.len, fun i h1 h2 => ?_, fun i j hi hj b hij hb1 => ?_⟩, ⟨WF_put hw' _ _, hb, hn, fun b hb1 hm => ?_, fun b hm => ?_⟩⟩
  · simpa using st h.bp (by decide) (by decide)
  · rw [st h.ar.bp (by decide) (by decide), h.ar.bp]
  · rw [st hr (by decide) (by decide), hr]
  · rw [st h.ar.bu (by decide) (by decide), h.ar.bu]
  · simp only [List.length_set] at h1 h2
    simp only [List.getElem_set]
    by_cases hia : a = i
    · simp only [hia, if_true]
      exact cn'.keep (by simp) (fun b hb1 => by simp [new' b hb1])
    · simp only [hia, if_false]
      refine (h.cn i h1 h2).keep hB (fun b hb1 => ?_)
      obtain ⟨cs', hk'⟩ := h.chk h1 hb1
      have m1 := blk_ne hk' h.bc (by decide)
      have m2 : blkOf D.xs[a] ≠ some b := fun e => h.apart a i ha h1 b hia e hb1
      simp [m1, keep b (hw.lt hk') m2]
  · simp only [List.length_set] at hi hj
    simp only [List.getElem_set] at hb1 ⊢
    by_cases hia : a = i
    · simp only [hia, if_true] at hb1
      have hja : ¬ a = j := by omega
      simp only [hja, if_false]
      intro e
      rcases new b hb1 with f | f
      · obtain ⟨cs', hk'⟩ := h.chk hj e
        have := hw.lt hk'
        omega
      · exact h.apart a j ha hj b hja f e
    · simp only [hia, if_false] at hb1
      by_cases hja : a = j
      · simp only [hja, if_true]
        intro e
        rcases new b e with f | f
        · obtain ⟨cs', hk'⟩ := h.chk hi hb1
          have := hw.lt hk'
          omega
        · exact h.apart a i ha hi b hia f hb1
      · simp only [hja, if_false]
        exact h.apart i j hi hj b hij hb1
  · have m1 : b ≠ D.cb := fun e => hm (by rw [e]; unfold Mine; simp)
    have m2 : blkOf D.xs[a] ≠ some b := fun e => hm (by unfold Mine; exact .inr (.inr (.inr (.inr (.inr (.inr (.inr ⟨_, List.getElem_mem ha, e⟩)))))))
    simp [m1, keep b hb1 m2]
  · unfold Mine at hm ⊢
    simp only at hm
    rcases hm with e | e | e | e | e | e | e | ⟨y, hy, e⟩
    · exact .inl (.inl e)
    · exact .inl (.inr (.inl e))
    · exact .inl (.inr (.inr (.inl e)))
    · exact .inl (.inr (.inr (.inr (.inl e))))
    · exact .inl (.inr (.inr (.inr (.inr (.inl e)))))
    · exact .inl (.inr (.inr (.inr (.inr (.inr (.inl e))))))
    · exact .inl (.inr (.inr (.inr (.inr (.inr (.inr (.inl e)))))))
    · rcases List.mem_or_eq_of_mem_set hy with hy | rfl
      · exact .inl (.inr (.inr (.inr (.inr (.inr (.inr (.inr ⟨y, hy, e⟩)))))))
      · rcases new b e with f | f
        · exact .inr f
        · exact .inl (.inr (.inr (.inr (.inr (.inr (.inr (.inr ⟨_, List.getElem_mem ha, f⟩)))))))
end
end Go.Proofs.Ythclcdboialfnaa
