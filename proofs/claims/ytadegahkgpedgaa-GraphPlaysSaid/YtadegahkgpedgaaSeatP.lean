/-
  Chapter 23: the document's Remove; a call of both; a graph's edges; is a number in a row?
-/
import Derived.Test.YtadegahkgpedgaaSeatO
namespace Go.Proofs.Ytadegahkgpedgaa
open Go.Ot Go.RowKit
set_option linter.unusedSimpArgs false
set_option linter.unusedVariables false
def InvRm (HF : Heap) (bx : Nat) (age : Int) (U : List Ed) (k : Nat) (t : Tm) (H1 : Heap) : Prop :=
  ∃ i y, i + k = U.length ∧ t 1 = iv age ∧ t 2 = ptr bx ∧ t 4 = ptr (bx + 1) ∧ t 6 = y ∧ t 7 = iv i ∧ Row HF H1 54 2 ((U.take i).filter (offE age)).length (((U.take i).filter (offE age)).map edv).flatten y
theorem rremove_T {H : Heap} (hw : H.WF) {room : Int} {x : Value} {U : List Ed} (hu : UR H x U) (age : Int) (hl : U.length ≤ 10000) :
    ∃ v H', T Try.prog 27 [.agg (rv room x).toArray, iv age] H v H' ∧ ∃ x', v = .tuple #[.agg (rv room x').toArray, iv ((U.length - (U.filter (offE age)).length : Nat) : Int)] ∧ UR H' x' (U.filter (offE age)) ∧ On H H' ∧ ∀ b, blkOf x' = some b → (H.next ≤ b ∧ b < H'.next) ∨ blkOf x = some b := by
  refine T_by hm light27 ?_
  have hc : (Value.agg (rv room x).toArray).cells.toList = rv room x := rfl
  obtain ⟨HE, hHE⟩ : ∃ HE, HE = H.new 36 2 (rv room x) := ⟨_, rfl⟩
  have onE : On H HE := by rw [hHE]; exact (On.refl hw).new _ _ _
  have nE : HE.next = H.next + 1 := by rw [hHE]; simp
  obtain ⟨HF, hHF⟩ : ∃ HF, HF = HE.new 36 2 [iv 0, .slice none 0 0] := ⟨_, rfl⟩
  have onF : On H HF := by rw [hHF]; exact onE.new _ _ _
  have nF : HF.next = H.next + 2 := by rw [hHF]; simp [nE]
  have hnB := hw.next_ge
  have bF : HF.blk H.next = some ⟨36, 2, rv room x⟩ := by
    rw [hHF]
    have : H.next ≠ HE.next := by omega
    simp [this]
    rw [hHE]; simp
  have bZ : HF.blk (H.next + 1) = some ⟨36, 2, [iv 0, .slice none 0 0]⟩ := by rw [hHF, ← nE]; simp
  have hu2 := hu.on hw onF
  simp only [rv] at hc hHE ⊢
  simp only [L27]
  simp [hc, ← hHE, nE, ← hHF]
  refine loop_at (InvRm HF H.next age U) U.length ?_ ?_
  · exact ⟨0, .slice none 0 0, by omega, by simp, by simp, by simp, by simp, by simp, Row.nil onF.wf _ _⟩
  · rintro k t H1 ⟨i, y, hik, t1, t2, t4, t6, t7, hr⟩
    have on1 : On H H1 := onF.trans ⟨hr.wf, hr.base, hr.next, hr.keep⟩
    have b1 : H1.blk H.next = some ⟨36, 2, rv room x⟩ := by rw [hr.keep _ (by omega)]; exact bF
    have bz1 : H1.blk (H.next + 1) = some ⟨36, 2, [iv 0, .slice none 0 0]⟩ := by rw [hr.keep _ (by omega)]; exact bZ
    have B1 : ¬ H.next < H1.B := by rw [B_eq on1.base]; exact hnB
    have ld1 : H1.load ⟨H.next, 1, none⟩ = some x := by rw [load_at B1 b1]; rfl
    have hu3 : UR H1 x U := hu.on hw on1
    obtain ⟨a, c, hx⟩ := hu3.len
    rw [List.length_map] at hx
    cases k with
    | zero =>
      have e1 : ¬ ((i : Int) < U.length) := by omega
      have e2 : i = U.length := by omega
      rw [e2, List.take_length] at hr
      obtain ⟨K, hK⟩ : ∃ K, K = U.filter (offE age) := ⟨_, rfl⟩
      have hKl : K.length ≤ U.length := by rw [hK]; exact List.length_filter_le _ _
      rw [← hK] at hr ⊢
      obtain ⟨a2, hy⟩ := hr.own.len
      have c1 : IntKind.i64.wrap ((U.length : Int) - K.length) = ((U.length - K.length : Nat) : Int) := by rw [w64 _ (by omega)]; omega
      obtain ⟨HP, hHP⟩ : ∃ HP, HP = H1.put H.next (rv room y) := ⟨_, rfl⟩
      have stP : H1.store ⟨H.next, 1, none⟩ y = some HP := by
        rw [store_own B1 b1, if_pos (by simp [rv]), hHP]
        rfl
      have onP : On H HP := by rw [hHP]; exact on1.putNew _ _ (Nat.le_refl _)
      have bP : HP.blk H.next = some ⟨36, 2, rv room y⟩ := by rw [hHP]; simp [b1]
      have bZP : HP.blk (H.next + 1) = some ⟨36, 2, [iv 0, .slice none 0 0]⟩ := by rw [hHP]; simp [bz1]
      have ldP : HP.loadN ⟨H.next, 0, none⟩ 0 2 = some (rv room y) := by rw [loadN_at (by rw [B_eq onP.base]; exact hnB) bP (by simp [rv])]; rfl
      obtain ⟨HQ, hHQ⟩ : ∃ HQ, HQ = HP.put (H.next + 1) (rv room y) := ⟨_, rfl⟩
      have stQ : sStore HP 2 (ptr (H.next + 1)) (.agg (rv room y).toArray) = some HQ := by
        rw [sStore_agg HP ⟨H.next + 1, 0, none⟩ 2 (rv room y) rfl (by decide), storeN_at (by rw [B_eq onP.base]; omega) bZP (by simp [rv]), hHQ]
        rfl
      have onQ : On H HQ := by rw [hHQ]; exact onP.putNew _ _ (by omega)
      have ldQ : HQ.loadN ⟨H.next + 1, 0, none⟩ 0 2 = some (rv room y) := by
        rw [loadN_at (k := ⟨36, 2, rv room y⟩) (by rw [B_eq onQ.base]; omega) (by rw [hHQ]; simp [bZP]) (by simp [rv])]
        rfl
      have uQ : UR HQ y K := by
        have hown : Own HQ 54 2 K.length (K.map edv).flatten y := by
          refine hr.own.keep (B_eq (by rw [onQ.base, on1.base])) (fun b hb => ?_)
          have hge := hr.new b hb
          rw [hHQ, hHP]
          have m1 : b ≠ H.next := by omega
          have m2 : b ≠ H.next + 1 := by omega
          simp [m1, m2]
        exact Own.rws (ety := 54) (by intro r' hr'; obtain ⟨e, _, rfl⟩ := List.mem_map.1 hr'; rfl) (by rw [List.length_map]; exact hown)
      rw [hx] at ld1
      rw [hy] at t6 stP
      simp only [rv] at ldP stQ ldQ
      rw [hy] at ldP stQ ldQ uQ
      simp [L27_1, t7, t2, ld1, e1, t6, c1, stP, ldP, t4, stQ, ldQ]
      exact ⟨uQ, onQ, fun b hb => .inl ⟨by have := hr.new b (by rw [hy]; exact hb); omega, by rw [hHQ, hHP]; exact hr.own.lt hr.wf (by rw [hy]; exact hb)⟩⟩
    | succ k =>
      have hil : i < U.length := by omega
      have e1 : ((i : Int) < U.length) := by omega
      obtain ⟨b, off, c2, hxe, hl2, hldN, hld⟩ := hu3.at (i := i) (by simpa using hil)
      rw [List.length_map] at hxe
      rw [List.getElem_map] at hldN
      have l0 : H1.load ⟨b, off + i * 2, none⟩ = some (iv U[i].1) := by
        have := hld 0 (by rw [hl2]; decide)
        simpa [edv] using this
      have l1 : H1.load ⟨b, off + i * 2 + 1, none⟩ = some (iv U[i].2) := by
        have := hld 1 (by rw [hl2]; decide)
        simpa [edv] using this
      obtain ⟨e, he⟩ : ∃ e, e = U[i] := ⟨_, rfl⟩
      rw [← he] at l0 l1 hldN
      rw [hxe] at ld1
      have e4 : IntKind.i64.wrap ((i : Int) + 1) = ((i + 1 : Nat) : Int) := by rw [w64 _ (by omega)]; omega
      have htk : U.take (i + 1) = U.take i ++ [e] := by rw [List.take_add_one, List.getElem?_eq_getElem hil, he]; rfl
      obtain ⟨iN, hiN⟩ : ∃ n : Nat, n = i + 1 := ⟨_, rfl⟩
      rw [← hiN] at e4 htk
      have hz : zerosA [iv 0, iv 0] 2 = [iv 0, iv 0] := rfl
      have drop : offE age e = false → ∀ t' : Tm, t' 1 = iv age → t' 2 = ptr H.next → t' 4 = ptr (H.next + 1) → t' 6 = y → t' 7 = iv iN → ∃ m, m < k + 1 ∧ InvRm HF H.next age U m t' (rdy H1) := by
        intro ho t' g1 g2 g4 g6 g7
        refine ⟨k, by omega, iN, y, by omega, g1, g2, g4, g6, g7, ?_⟩
        have : (U.take iN).filter (offE age) = (U.take i).filter (offE age) := by rw [htk]; simp [ho]
        rw [this]
        exact hr
      by_cases h1 : e.1 = age
      · have hb : (e.1 != age) = false := by simpa using h1
        simp [L27_1, t7, t2, ld1, e1, l0, t1, hb, e4]
        exact drop (by simp [offE, h1]) _ (by simp [t1]) (by simp [t2]) (by simp [t4]) (by simp [t6]) (by simp)
      · have hb : (e.1 != age) = true := by simpa using h1
        by_cases h2 : e.2 = age
        · have hb2 : (e.2 != age) = false := by simpa using h2
          simp [L27_1, t7, t2, ld1, e1, l0, l1, t1, hb, hb2, e4]
          exact drop (by simp [offE, h2]) _ (by simp [t1]) (by simp [t2]) (by simp [t4]) (by simp [t6]) (by simp)
        · have hb2 : (e.2 != age) = true := by simpa using h2
          have hfl : ((U.take i).filter (offE age)).length ≤ i := Nat.le_trans (List.length_filter_le _ _) (by simp; omega)
          obtain ⟨HA, ap, hrA⟩ := hr.push (edv e) rfl (by decide) 16 (by omega)
          simp only [edv] at ap hldN
          simp [L27_1, t7, t2, ld1, e1, l0, l1, t1, hb, hb2, hldN, hz, t6, ap, e4]
          refine ⟨k, by omega, iN, _, by omega, by simp [t1], by simp [t2], by simp [t4], by simp; rfl, by simp, ?_⟩
          have : (U.take iN).filter (offE age) = (U.take i).filter (offE age) ++ [e] := by rw [htk]; simp [offE, h1, h2]
          rw [this, snoc_len, snoc_cells]
          exact hrA
/-- The program's Add, in one. -/
theorem add_T {H : Heap} (hw : H.WF) {p : Nat} {room : Int} {L : List Ed} {x : Value} (gr : GR H p room L x) (r w : Int) (hsm : L.length < 10000) :
    ∃ H' x' L', T Try.prog 8 [ptr p, iv r, iv w] H (iv (addC L room r w)) H' ∧ GR H' p room L' x' ∧ L'.Perm (addU L room r w) ∧ Aft H H' p x x' := by
  by_cases hbad : w < 0 ∨ r ≤ w
  · refine ⟨H, x, L, ?_, gr, ?_, Aft.refl hw p x⟩
    · rw [show addC L room r w = 230 by simp [addC, hbad]]
      exact add_bad hw hbad
    · rw [show addU L room r w = L by simp [addU, addI, hbad]]
  · obtain ⟨i, hp, _⟩ := place_T hw gr (r, w)
    by_cases hmem : (r, w) ∈ L ∨ (L.length : Int) = room
    · have hi : L[i]? = some (r, w) ∨ (L.length : Int) = room := by
        rcases hmem with h | h
        · left
          obtain ⟨q, hq, hqe⟩ := List.getElem_of_mem h
          have hle : ¬ q < i := by
            intro hlt
            have := hp.lo q hq hlt
            rw [hqe, bef_irr] at this
            cases this
          by_cases hqi : q = i
          · subst hqi; rw [List.getElem?_eq_getElem hq, hqe]
          · exfalso
            have h3 := List.pairwise_iff_getElem.1 gr.ord i q (by omega) hq (by omega)
            rw [hqe] at h3
            rw [hp.hi i (by omega) (Nat.le_refl _)] at h3
            cases h3
        · exact .inr h
      have hT := add_old hw gr hbad ⟨i, hp, hi⟩
      refine ⟨H, x, L, ?_, gr, ?_, Aft.refl hw p x⟩
      · have : addC L room r w = if (r, w) ∈ L then 0 else 200 := by
          unfold addC
          rw [if_neg hbad]
          rcases hmem with h | h
          · simp [h]
          · simp [h]
        rw [this]
        exact hT
      · rw [show addU L room r w = L by
          rcases hmem with h | h
          · simp [addU, addI, h]
          · simp [addU, addI, h]]
    · have h1 : (r, w) ∉ L := fun h => hmem (.inl h)
      have h2 : (L.length : Int) ≠ room := fun h => hmem (.inr h)
      have hno : L[i]? ≠ some (r, w) := fun h => h1 (List.mem_of_getElem? h)
      obtain ⟨H', x', hT, g', a'⟩ := add_new hw gr hbad hp hno h2 hsm
      refine ⟨H', x', _, ?_, g', ?_, a'⟩
      · rw [show addC L room r w = 0 by simp [addC, hbad, h1, h2]]
        exact hT
      · rw [show addU L room r w = L ++ [(r, w)] by simp [addU, addI, hbad, h1, h2]]
        refine List.perm_middle.trans ?_
        rw [List.take_append_drop]
        exact (List.perm_append_singleton _ _).symm
theorem edges_T {H : Heap} (hw : H.WF) {p : Nat} {room : Int} {L : List Ed} {x : Value} (gr : GR H p room L x) : ∃ y H', T Try.prog 14 [ptr p] H y H' ∧ Row H H' 46 2 L.length (L.map edv).flatten y := by
  refine T_by hm light14 ?_
  have hnB := hw.next_ge
  have ld1 := gr.ld1
  have hll := gr.len
  by_cases hL : L = []
  · subst hL
    obtain ⟨a, hx⟩ := gr.own.len
    have hsrc : srcCells H 2 x = some (0, []) := by
      rcases gr.own.2 with ⟨h, _⟩ | ⟨b, rest, h, _, hk⟩
      · rw [h]; rfl
      · rw [h, srcCells_slice]; simp [Heap.loadN]
    have ap := append_none (ety := 46) (bytes := 16) (a := none) (n := 0) (c := 0) hsrc (.inr ⟨rfl, rfl⟩)
    simp [L14, ld1, ap]
    exact Row.nil hw _ _
  · have hpos : 0 < L.length := List.length_pos_iff.2 hL
    have hcl := cells_len L
    have hsrc : srcCells H 2 x = some (L.length, (L.map edv).flatten) := by
      rcases gr.own.2 with ⟨h, h0⟩ | ⟨b, rest, h, hB, hk⟩
      · omega
      · rw [h, src_at hB hk (by simp [hcl])]
        simp only [Nat.zero_add, List.drop_zero]
        rw [← hcl, List.take_left]
    have ap := append_any (bytes := 16) (Own.nil H 46 2) hsrc (by omega) (by omega)
    simp [L14, ld1, ap]
    refine ⟨?_, WF_new (WF_drop hw _) _ _ _, by simp, by simp, fun b hb => by simp at hb; omega, fun b hb => ?_⟩
    · have := Own.mk (H := (H.drop (.slice none 0 0)).new 46 2 (L.map edv).flatten) (ety := 46) (sz := 2) (n := L.length) (b := H.next) (cells := (L.map edv).flatten) (by rw [hcl]) (by simp; omega) (by simp)
      simpa using this
    · have : b ≠ H.next := by omega
      simp [this, blk_drop]
def InvHas (H : Heap) (x : Value) (n : Int) (l : List Int) (k : Nat) (t : Tm) (H1 : Heap) : Prop :=
  ∃ i, i + k = l.length ∧ t 0 = x ∧ t 1 = iv n ∧ t 5 = iv i ∧ (∀ q (h : q < l.length), q < i → l[q] ≠ n) ∧ H1 = H
theorem has_T {H : Heap} {x : Value} {l : List Int} (h : Ints H .i64 x l) (n : Int) (hl : l.length ≤ 1000000) : T Try.prog 15 [x, iv n] H (.bool (decide (n ∈ l))) H := by
  refine T_eq hm light15 ?_
  obtain ⟨a, c, hx⟩ := h.len
  simp [L15]
  refine loop_at (InvHas H x n l) l.length ?_ ?_
  · exact ⟨0, by omega, by simp, by simp, by simp, fun q _ h => absurd h (by omega), rfl⟩
  · rintro k t H1 ⟨i, hik, t0, t1, t5, hno, rfl⟩
    cases k with
    | zero =>
      have e1 : ¬ ((i : Int) < l.length) := by omega
      have hnm : n ∉ l := by
        intro hm'
        obtain ⟨q, hq, he⟩ := List.getElem_of_mem hm'
        exact hno q hq (by omega) he
      rw [hx] at t0
      simp [L15_1, t0, t5, e1, hnm]
    | succ k =>
      have hil : i < l.length := by omega
      have e1 : ((i : Int) < l.length) := by omega
      obtain ⟨b, off, c2, hxe, hld⟩ := h.at hil
      have e4 : IntKind.i64.wrap ((i : Int) + 1) = ((i + 1 : Nat) : Int) := by rw [w64 _ (by omega)]; omega
      obtain ⟨iN, hiN⟩ : ∃ n : Nat, n = i + 1 := ⟨_, rfl⟩
      rw [← hiN] at e4
      by_cases he : l[i] = n
      · have hb : (l[i] == n) = true := by simpa using he
        have hmem : n ∈ l := by rw [← he]; exact List.getElem_mem hil
        rw [hxe] at t0
        simp [L15_1, t0, t5, e1, hld, t1, hb, hmem]
      · have hb : (l[i] == n) = false := by simpa using he
        have t0' := t0
        rw [hxe] at t0
        simp [L15_1, t0, t5, e1, hld, t1, hb, e4]
        refine ⟨k, by omega, iN, by omega, by simp [t0'], by simp [t1], by simp, ?_, rfl⟩
        intro q hq hqi
        by_cases e : q = i
        · subst e; exact he
        · exact hno q hq (by omega)
end Go.Proofs.Ytadegahkgpedgaa
