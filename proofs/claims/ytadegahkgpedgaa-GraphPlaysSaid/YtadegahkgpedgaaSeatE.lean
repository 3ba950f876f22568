/-
  Chapter 23: Remove, Readers.
-/
import Derived.Test.YtadegahkgpedgaaSeatD
namespace Go.Proofs.Ytadegahkgpedgaa
open Go.Ot Go.RowKit
set_option linter.unusedSimpArgs false
set_option linter.unusedVariables false
/-- From `H` to `H1` only new blocks; and a row of one's own, new too. -/
structure Row (H H1 : Heap) (ety sz n : Nat) (cells : List Value) (y : Value) : Prop where
  own : Own H1 ety sz n cells y
  wf : H1.WF
  base : H1.base = H.base
  next : H.next ≤ H1.next
  new : ∀ b, blkOf y = some b → H.next ≤ b
  keep : ∀ b, b < H.next → H1.blk b = H.blk b
theorem Row.nil {H : Heap} (hw : H.WF) (ety sz : Nat) : Row H H ety sz 0 [] (.slice none 0 0) :=
  ⟨Own.nil _ _ _, hw, rfl, Nat.le_refl _, fun b hb => (by cases hb), fun _ _ => rfl⟩
theorem Row.on {H H1 : Heap} {ety sz n : Nat} {cells : List Value} {y : Value} (h : Row H H1 ety sz n cells y) (ty s : Nat) (cs : List Value) : Row H (H1.new ty s cs) ety sz n cells y :=
  ⟨h.own.new h.wf _ _ _, WF_new h.wf _ _ _, by simp [h.base], by have := h.next; simp; omega, h.new, fun b hb => by
    have h1 := h.next
    have : b ≠ H1.next := by omega
    simp [this, h.keep b hb]⟩
theorem Row.push {H H1 : Heap} {ety sz n : Nat} {cells : List Value} {y : Value} (h : Row H H1 ety sz n cells y) (row : List Value) (hr : row.length = sz) (h0 : 0 < sz) (bytes : Nat) (hb : (n + 1) * bytes ≤ 140737488355328) :
    ∃ HA, sAppend (H1.new ety sz row) ety sz bytes y (.slice (some ⟨H1.next, 0, none⟩) 1 0) = some (.slice (some ⟨H1.next + 1, 0, none⟩) (n + 1) 0, HA) ∧ Row H HA ety sz (n + 1) (cells ++ row) (.slice (some ⟨H1.next + 1, 0, none⟩) (n + 1) 0) := by
  have h2 := h.on ety sz row
  have hn1 := h.wf.next_ge
  have src : srcCells (H1.new ety sz row) sz (.slice (some ⟨H1.next, 0, none⟩) 1 0) = some (1, row) := by
    rw [src_at (ety := ety) (cs := row) (by simpa using hn1) (by simp) (by simp [hr])]
    simp [← hr]
  refine ⟨_, append_any h2.own src (by decide) hb, ?_⟩
  have hnx := h.next
  refine ⟨?_, WF_new (WF_drop h2.wf _) _ _ _, by simp [h.base], by simp; omega, fun b hb => ?_, fun b hb => ?_⟩
  · exact Own.mk (by have := h.own.1; simp [this, hr, Nat.add_mul]) (by simp; omega) (by simp)
  · simp at hb; omega
  · have m1 : b ≠ H1.next + 1 := by omega
    have m2 : b ≠ H1.next := by omega
    have m3 : blkOf y ≠ some b := fun hy => by have := h.new b hy; omega
    simp [m1, m2, blk_drop, m3, h.keep b hb]
theorem snoc_len (K : List Ed) (e : Ed) : (K ++ [e]).length = K.length + 1 := by simp
theorem snoc_cells (K : List Ed) (e : Ed) : ((K ++ [e]).map edv).flatten = (K.map edv).flatten ++ edv e := by simp
def offE (age : Int) (e : Ed) : Bool := (e.1 != age) && (e.2 != age)
def InvM (H : Heap) (p : Nat) (age : Int) (L : List Ed) (x : Value) (k : Nat) (t : Tm) (H1 : Heap) : Prop :=
  ∃ i y, i + k = L.length ∧ t 0 = ptr p ∧ t 1 = iv age ∧ t 12 = x ∧ t 13 = iv L.length ∧ t 14 = iv i ∧ t 5 = y ∧ Row H H1 46 2 ((L.take i).filter (offE age)).length (((L.take i).filter (offE age)).map edv).flatten y
theorem remove_T {H : Heap} (hw : H.WF) {p : Nat} {room : Int} {L : List Ed} {x : Value} (g : GR H p room L x) (age : Int) :
    ∃ H' x', T Try.prog 10 [ptr p, iv age] H (iv ((L.length - (L.filter (offE age)).length : Nat) : Int)) H' ∧ GR H' p room (L.filter (offE age)) x' ∧ Aft H H' p x x' := by
  have : ∃ v H', T Try.prog 10 [ptr p, iv age] H v H' ∧ v = iv ((L.length - (L.filter (offE age)).length : Nat) : Int) ∧ ∃ x', GR H' p room (L.filter (offE age)) x' ∧ Aft H H' p x x' := by
    refine T_by hm light10 ?_
    obtain ⟨a, hx⟩ := g.own.len
    have ld1 := g.ld1
    have hll := g.len
    simp [L10, ld1]
    rw [hx]
    simp
    rw [← hx]
    refine loop_at (InvM H p age L x) L.length ?_ ?_
    · exact ⟨0, .slice none 0 0, by omega, by simp, by simp, by simp [hx], by simp, by simp, by simp, Row.nil hw _ _⟩
    · rintro k t H1 ⟨i, y, hik, t0, t1, t12, t13, t14, t5, hr⟩
      have g1 : GR H1 p room L x := g.keep hw hr.base hr.keep
      have ldp := g1.ld1
      cases k with
      | zero =>
        have e1 : ¬ ((i : Int) < L.length) := by omega
        have e2 : i = L.length := by omega
        rw [e2, List.take_length] at hr
        obtain ⟨K, hK⟩ : ∃ K, K = L.filter (offE age) := ⟨_, rfl⟩
        have hKl : K.length ≤ L.length := by rw [hK]; exact List.length_filter_le _ _
        rw [← hK] at hr ⊢
        obtain ⟨a2, hy⟩ := hr.own.len
        have c1 : IntKind.i64.wrap ((L.length : Int) - K.length) = ((L.length - K.length : Nat) : Int) := by rw [w64 _ (by omega)]; omega
        obtain ⟨HZ, hHZ⟩ : ∃ HZ, HZ = H1.put p [iv room, y] := ⟨_, rfl⟩
        have hyp : blkOf y ≠ some p := fun hb => by have := hr.new p hb; have := hw.lt g.bp; omega
        have st : H1.store ⟨p, 1, none⟩ y = some HZ := by
          rw [store_own g1.hp g1.bp, if_pos (by simp), hHZ]
          rfl
        rw [hx] at ldp
        rw [hy] at t5 st
        simp [L10_1, t13, t14, e1, t0, ldp, t5, c1, st]
        refine ⟨y, ⟨?_, ?_, ?_, hyp, ?_, by omega⟩, ?_, ?_, ?_, ?_, ?_⟩
        · rw [hHZ]; exact g1.hp
        · rw [hHZ]; simp [g1.bp]
        · refine hr.own.keep (by rw [hHZ]; rfl) (fun b hb => ?_)
          have : b ≠ p := fun hbp => hyp (hbp ▸ hb)
          rw [hHZ]; simp [this]
        · rw [hK]; exact g.ord.filter _
        · rw [hHZ]; exact WF_put hr.wf _ _
        · rw [hHZ]; exact hr.base
        · rw [hHZ]; exact hr.next
        · intro b hb hbp _
          rw [hHZ]; simp [hbp, hr.keep b hb]
        · intro b hb
          exact .inr (hr.new b hb)
      | succ k =>
        have hil : i < L.length := by omega
        have e1 : ((i : Int) < L.length) := by omega
        obtain ⟨b, off, c, hxe, _, hld, _⟩ := g1.rws.at (i := i) (by simpa using hil)
        rw [List.getElem_map] at hld
        rw [List.length_map] at hxe
        obtain ⟨e, he⟩ : ∃ e, e = L[i] := ⟨_, rfl⟩
        rw [← he] at hld
        have st := new_storeA hr.wf 46 2 [iv 0, iv 0] (edv e) rfl rfl (by decide)
        have hr2 := hr.on 46 2 (edv e)
        have ldA := new_loadA hr.wf 46 2 (edv e) rfl
        have ld0 : (H1.new 46 2 (edv e)).load ⟨H1.next, 0, none⟩ = some (iv e.1) := by rw [new_load hr.wf 46 2 (edv e)]; rfl
        have ld1' : (H1.new 46 2 (edv e)).load ⟨H1.next, 1, none⟩ = some (iv e.2) := by rw [new_load hr.wf 46 2 (edv e)]; rfl
        obtain ⟨HE, hHE⟩ : ∃ HE, HE = H1.new 46 2 (edv e) := ⟨_, rfl⟩
        rw [← hHE] at st hr2 ldA ld0 ld1'
        have e4 : IntKind.i64.wrap ((i : Int) + 1) = ((i + 1 : Nat) : Int) := by rw [w64 _ (by omega)]; omega
        have htk : L.take (i + 1) = L.take i ++ [e] := by rw [List.take_add_one, List.getElem?_eq_getElem hil, he]; rfl
        obtain ⟨iN, hiN⟩ : ∃ n : Nat, n = i + 1 := ⟨_, rfl⟩
        rw [← hiN] at e4 htk
        have hz : zerosA [iv 0, iv 0] 2 = [iv 0, iv 0] := rfl
        rw [hxe] at t12
        have drop : offE age e = false → ∀ t' : Tm, t' 0 = ptr p → t' 1 = iv age → t' 12 = x → t' 13 = iv L.length → t' 14 = iv iN → t' 5 = y → ∃ m, m < k + 1 ∧ InvM H p age L x m t' (rdy HE) := by
          intro ho t' g0 g1' g12 g13 g14 g5
          refine ⟨k, by omega, iN, y, by omega, g0, g1', g12, g13, g14, g5, ?_⟩
          have : (L.take iN).filter (offE age) = (L.take i).filter (offE age) := by rw [htk]; simp [ho]
          rw [this]
          exact hr2
        simp only [edv] at st ldA
        by_cases h1 : e.1 = age
        · have hb : (e.1 != age) = false := by simpa using h1
          simp [L10_1, t13, t14, e1, t12, hld, edv, st, ld0, t1, hb, e4]
          exact drop (by simp [offE, h1]) _ (by simp [t0]) (by simp [t1]) (by simp [t12, hxe]) (by simp [t13]) (by simp) (by simp [t5])
        · have hb : (e.1 != age) = true := by simpa using h1
          by_cases h2 : e.2 = age
          · have hb2 : (e.2 != age) = false := by simpa using h2
            simp [L10_1, t13, t14, e1, t12, hld, edv, st, ld0, ld1', t1, hb, hb2, e4]
            exact drop (by simp [offE, h2]) _ (by simp [t0]) (by simp [t1]) (by simp [t12, hxe]) (by simp [t13]) (by simp) (by simp [t5])
          · have hb2 : (e.2 != age) = true := by simpa using h2
            have hfl : ((L.take i).filter (offE age)).length ≤ i := Nat.le_trans (List.length_filter_le _ _) (by simp; omega)
            obtain ⟨HA, ap, hrA⟩ := hr2.push (edv e) rfl (by decide) 16 (by omega)
            simp only [edv] at ap
            simp [L10_1, t13, t14, e1, t12, hld, edv, st, ld0, ld1', t1, hb, hb2, ldA, hz, t5, ap, e4]
            refine ⟨k, by omega, iN, _, by omega, by simp [t0], by simp [t1], by simp [t12, hxe], by simp [t13], by simp, by simp; rfl, ?_⟩
            have : (L.take iN).filter (offE age) = (L.take i).filter (offE age) ++ [e] := by rw [htk]; simp [offE, h1, h2]
            rw [this, snoc_len, snoc_cells]
            exact hrA
  obtain ⟨v, H', hT, rfl, x', h1, h2⟩ := this
  exact ⟨H', x', hT, h1, h2⟩
/-- Who leans on a writer. -/
def rd (L : List Ed) (w : Int) : List Int := (L.filter fun e => e.2 == w).map Prod.fst
def InvD (H : Heap) (p : Nat) (w : Int) (L : List Ed) (i0 : Nat) (k : Nat) (t : Tm) (H1 : Heap) : Prop :=
  ∃ i y, i + k = L.length ∧ i0 ≤ i ∧ t 0 = ptr p ∧ t 1 = iv w ∧ t 5 = iv i ∧ t 7 = y ∧ Row H H1 3 1 (rd (L.take i) w).length ((rd (L.take i) w).map iv) y
theorem rd_take (L : List Ed) (w : Int) (i : Nat) (h : i < L.length) : rd (L.take (i + 1)) w = rd (L.take i) w ++ (if L[i].2 = w then [L[i].1] else []) := by
  unfold rd
  rw [List.take_add_one, List.getElem?_eq_getElem h, List.filter_append, List.map_append]
  by_cases hw : L[i].2 = w <;> simp [hw]
theorem rd_none {L : List Ed} {w : Int} (h : ∀ q (h : q < L.length), L[q].2 ≠ w) : rd L w = [] := by
  unfold rd
  rw [List.filter_eq_nil_iff.2]
  · rfl
  · intro e he
    obtain ⟨q, hq, rfl⟩ := List.getElem_of_mem he
    simpa using h q hq
theorem rd_split (L : List Ed) (w : Int) (i : Nat) : rd L w = rd (L.take i) w ++ rd (L.drop i) w := by
  unfold rd
  rw [← List.map_append, ← List.filter_append, List.take_append_drop]
theorem rd_len (L : List Ed) (w : Int) : (rd L w).length ≤ L.length := by
  unfold rd
  rw [List.length_map]
  exact List.length_filter_le _ _
theorem readers_T {H : Heap} (hw : H.WF) {p : Nat} {room : Int} {L : List Ed} {x : Value} (g : GR H p room L x) (w : Int) (hf : ∀ e ∈ L, -9223372036854775808 ≤ e.1) :
    ∃ y H', T Try.prog 16 [ptr p, iv w] H y H' ∧ Row H H' 3 1 (rd L w).length ((rd L w).map iv) y := by
  have hll := g.len
  refine T_by hm light16 ?_
  obtain ⟨i0, hp, hT⟩ := place_T hw g (-9223372036854775808, w)
  obtain ⟨there, hth⟩ : ∃ b, b = decide (L[i0]? = some ((-9223372036854775808 : Int), w)) := ⟨_, rfl⟩
  rw [← hth] at hT
  simp only [edv] at hT
  have hlo : ∀ q (h : q < L.length), q < i0 → L[q].2 < w := by
    intro q hq hqi
    have := hp.lo q hq hqi
    have hfq := hf _ (List.getElem_mem hq)
    simp only [befB, Bool.or_eq_true, Bool.and_eq_true, decide_eq_true_eq] at this
    omega
  have hhi : ∀ q (h : q < L.length), i0 ≤ q → w ≤ L[q].2 := by
    intro q hq hqi
    have := hp.hi q hq hqi
    simp only [befB, Bool.or_eq_false_iff, Bool.and_eq_false_iff, decide_eq_false_iff_not] at this
    omega
  simp [L16]
  refine goT_of hT ?_
  simp
  refine loop_at (InvD H p w L i0) (L.length - i0) ?_ ?_
  · refine ⟨i0, .slice none 0 0, by have := hp.le; omega, Nat.le_refl _, by simp, by simp, by simp, by simp, ?_⟩
    have : rd (L.take i0) w = [] := by
      apply rd_none
      intro q hq
      have hq2 : q < i0 ∧ q < L.length := by rw [List.length_take] at hq; omega
      rw [List.getElem_take]
      have := hlo q hq2.2 hq2.1
      omega
    rw [this]
    exact Row.nil hw _ _
  · rintro k t H1 ⟨i, y, hik, hi0, t0, t1, t5, t7, hr⟩
    have g1 : GR H1 p room L x := g.keep hw hr.base hr.keep
    have ldp := g1.ld1
    obtain ⟨a, hx⟩ := g.own.len
    have stop : (∀ q (h : q < L.length), i ≤ q → L[q].2 ≠ w) → Row H H1 3 1 (rd L w).length ((rd L w).map iv) y := by
      intro h
      have : rd (L.drop i) w = [] := by
        apply rd_none
        intro q hq
        rw [List.length_drop] at hq
        rw [List.getElem_drop]
        exact h (i + q) (by omega) (by omega)
      rw [rd_split L w i, this, List.append_nil]
      exact hr
    obtain ⟨a2, hy⟩ := hr.own.len
    by_cases hil : i < L.length
    · have e1 : ((i : Int) < L.length) := by omega
      obtain ⟨b, off, c, hxe, hl2, _, hld⟩ := g1.rws.at (i := i) (by simpa using hil)
      rw [List.length_map] at hxe
      have ld0 : H1.load ⟨b, off + i * 2, none⟩ = some (iv L[i].1) := by
        have := hld 0 (by rw [hl2]; decide)
        simpa [edv] using this
      have ld1' : H1.load ⟨b, off + i * 2 + 1, none⟩ = some (iv L[i].2) := by
        have := hld 1 (by rw [hl2]; decide)
        simpa [edv] using this
      rw [hxe] at ldp
      by_cases hwi : L[i].2 = w
      · obtain ⟨k, rfl⟩ : ∃ k', k = k' + 1 := ⟨k - 1, by omega⟩
        have hb : (L[i].2 == w) = true := by simpa using hwi
        have hz : zerosA [iv 0] 1 = [iv 0] := rfl
        have e4 : IntKind.i64.wrap ((i : Int) + 1) = ((i + 1 : Nat) : Int) := by rw [w64 _ (by omega)]; omega
        have hrt := rd_take L w i hil
        rw [if_pos hwi] at hrt
        have hrl := rd_len (L.take i) w
        have hrl2 : (L.take i).length ≤ i := by simp; omega
        obtain ⟨HA, ap, hrA⟩ := hr.push [iv L[i].1] rfl (by decide) 8 (by omega)
        obtain ⟨iN, hiN⟩ : ∃ n : Nat, n = i + 1 := ⟨_, rfl⟩
        rw [← hiN] at e4 hrt
        simp [L16_1, t5, t0, ldp, e1, ld1', t1, hb, hz, ld0, t7, ap, e4]
        refine ⟨k, by omega, iN, _, by omega, by omega, by simp [t0], by simp [t1], by simp, by simp; rfl, ?_⟩
        rw [hrt]
        have q1 : (rd (L.take i) w ++ [L[i].1]).length = (rd (L.take i) w).length + 1 := by simp
        have q2 : (rd (L.take i) w ++ [L[i].1]).map iv = (rd (L.take i) w).map iv ++ [iv L[i].1] := by simp
        rw [q1, q2]
        exact hrA
      · have hb : (L[i].2 == w) = false := by simpa using hwi
        have hst := stop (fun q hq hiq => by
          have h1 := hhi i hil hi0
          by_cases hqe : q = i
          · subst hqe; exact hwi
          · have h2 := List.pairwise_iff_getElem.1 g.ord i q hil hq (by omega)
            simp only [befB, Bool.or_eq_true, Bool.and_eq_true, decide_eq_true_eq] at h2
            omega)
        rw [hy] at t7 hst
        simp [L16_1, t5, t0, ldp, e1, ld1', t1, hb, t7]
        exact hst
    · have e1 : ¬ ((i : Int) < L.length) := by omega
      have hst := stop (fun q hq hiq => absurd hq (by omega))
      rw [hx] at ldp
      rw [hy] at t7 hst
      simp [L16_1, t5, t0, ldp, e1, t7]
      exact hst
end Go.Proofs.Ytadegahkgpedgaa
