/-
  Chapter 23: the document's Edges.
-/
import Derived.Test.YtadegahkgpedgaaSeatX
namespace Go.Proofs.Ytadegahkgpedgaa
open Go.Ot Go.RowKit
set_option linter.unusedSimpArgs false
set_option linter.unusedVariables false
theorem Row.push2 {H H1 : Heap} {ety sz n : Nat} {cells : List Value} {y : Value} (h : Row H H1 ety sz n cells y) (row : List Value) (hr : row.length = sz) (h0 : 0 < sz) (bytes : Nat) (hb : (n + 1) * bytes ≤ 140737488355328) :
    ∃ HA y', sAppend (H1.new ety sz row) ety sz bytes y (.slice (some ⟨H1.next, 0, none⟩) 1 0) = some (y', HA) ∧ Row H HA ety sz (n + 1) (cells ++ row) y' ∧ H1.next ≤ HA.next ∧ HA.base = H1.base ∧ (∀ b, b < H1.next → blkOf y ≠ some b → HA.blk b = H1.blk b) ∧ ∀ b, blkOf y' = some b → H1.next ≤ b := by
  have h2 := h.on ety sz row
  have hn1 := h.wf.next_ge
  have src : srcCells (H1.new ety sz row) sz (.slice (some ⟨H1.next, 0, none⟩) 1 0) = some (1, row) := by
    rw [src_at (ety := ety) (cs := row) (by simpa using hn1) (by simp) (by simp [hr])]
    simp [← hr]
  refine ⟨_, _, append_any h2.own src (by decide) hb, ?_, ?_, ?_, ?_, ?_⟩
  · have hnx := h.next
    refine ⟨?_, WF_new (WF_drop h2.wf _) _ _ _, by simp [h.base], by simp; omega, fun b hb => ?_, fun b hb => ?_⟩
    · exact Own.mk (by have := h.own.1; simp [this, hr, Nat.add_mul]) (by simp; omega) (by simp)
    · simp at hb; omega
    · have m1 : b ≠ H1.next + 1 := by omega
      have m2 : b ≠ H1.next := by omega
      have m3 : blkOf y ≠ some b := fun hy => by have := h.new b hy; omega
      simp [m1, m2, blk_drop, m3, h.keep b hb]
  · simp; omega
  · simp
  · intro b hb hy
    have m1 : b ≠ H1.next + 1 := by omega
    have m2 : b ≠ H1.next := by omega
    simp [m1, m2, blk_drop, hy]
  · intro b hb
    simp at hb; omega
def wrs (U : List Ed) : List Int := U.map Prod.snd
theorem wrs_take (U : List Ed) (i : Nat) (h : i < U.length) : wrs (U.take (i + 1)) = wrs (U.take i) ++ [U[i].2] := by
  unfold wrs
  rw [List.take_add_one, List.getElem?_eq_getElem h, List.map_append]
  rfl
theorem wrs_len (U : List Ed) : (wrs U).length = U.length := by simp [wrs]
def InvE1 (HE : Heap) (bx : Nat) (U : List Ed) (k : Nat) (t : Tm) (H1 : Heap) : Prop :=
  ∃ i o, i + k = U.length ∧ t 1 = ptr bx ∧ t 3 = o ∧ t 4 = iv i ∧ Row HE H1 3 1 (wrs (U.take i)).length ((wrs (U.take i)).map iv) o
structure OrdV (U : List Ed) (W : List Int) (i : Nat) (O : List Ed) : Prop where
  ord : Ordered O
  mem : ∀ e, e ∈ O ↔ e ∈ U ∧ e.2 ∈ W.take i
def tag (w : Int) (X : List Int) : List Ed := X.map fun a => (a, w)
theorem tag_len (w : Int) (X : List Int) : (tag w X).length = X.length := by simp [tag]
theorem OrdV.more {U : List Ed} {W : List Int} {i : Nat} {O : List Ed} (h : OrdV U W i O) (hW : W.Pairwise (· < ·)) (hi : i < W.length) {X : List Int} (sv : SortV (rd U W[i]) X) : OrdV U W (i + 1) (O ++ tag W[i] X) where
  ord := by
    unfold Ordered
    rw [List.pairwise_append]
    refine ⟨h.ord, ?_, ?_⟩
    · unfold tag
      rw [List.pairwise_map]
      exact sv.inc.imp (fun hab => by simp [befB, hab])
    · intro a ha b hb
      obtain ⟨_, h2⟩ := (h.mem a).1 ha
      obtain ⟨c, _, rfl⟩ := List.mem_map.1 hb
      obtain ⟨j, hj, he⟩ := List.getElem_of_mem h2
      rw [List.length_take] at hj
      rw [List.getElem_take] at he
      have := List.pairwise_iff_getElem.1 hW j i (by omega) hi (by omega)
      rw [he] at this
      simp [befB, this]
  mem := fun e => by
    have htk : W.take (i + 1) = W.take i ++ [W[i]] := by rw [List.take_add_one, List.getElem?_eq_getElem hi]; rfl
    rw [htk, List.mem_append, List.mem_append, List.mem_singleton, h.mem e]
    constructor
    · rintro (⟨h1, h2⟩ | h1)
      · exact ⟨h1, .inl h2⟩
      · obtain ⟨c, hc, rfl⟩ := List.mem_map.1 h1
        obtain ⟨d, hd, h3, h4⟩ := mem_rd.1 ((sv.mem c).1 hc)
        refine ⟨?_, .inr rfl⟩
        have : d = (c, W[i]) := by rw [← h3, ← h4]
        rw [← this]; exact hd
    · rintro ⟨h1, h2 | h2⟩
      · exact .inl ⟨h1, h2⟩
      · right
        refine List.mem_map.2 ⟨e.1, (sv.mem _).2 (mem_rd.2 ⟨e, h1, h2, rfl⟩), ?_⟩
        rw [← h2]
def InvE2 (HW : Heap) (t0 : Tm) (w : Int) (X : List Int) (r : Value) (O : List Ed) (k : Nat) (t : Tm) (H1 : Heap) : Prop :=
  ∃ j eo, j + k = X.length ∧ t 1 = t0 1 ∧ t 3 = t0 3 ∧ t 6 = t0 6 ∧ t 5 = eo ∧ t 7 = r ∧ t 8 = iv j ∧ Row HW H1 54 2 (O ++ tag w (X.take j)).length ((O ++ tag w (X.take j)).map edv).flatten eo ∧ Ints H1 .i64 r X ∧ ∀ b, blkOf r = some b → b < H1.next ∧ blkOf eo ≠ some b
theorem inner_T {HW H1 : Heap} (hwW : HW.WF) {wo : Value} {W : List Int} {i : Nat} (hi : i < W.length) (hWo : Ints HW .i64 wo W) (hWl : W.length ≤ 100000) {X : List Int} {r eo : Value} {O : List Ed} (hXl : O.length + X.length ≤ 1000000) (row : Row HW H1 54 2 O.length (O.map edv).flatten eo) (hr : Ints H1 .i64 r X)
    (hrs : ∀ b, blkOf r = some b → b < H1.next ∧ blkOf eo ≠ some b) {Q : Exit → Tm → Heap → Prop} {t : Tm} (t3 : t 3 = wo) (t6 : t 6 = iv i) (t5 : t 5 = eo) (t7 : t 7 = r) (t8 : t 8 = iv 0)
    (hQ : ∀ t9 H9 eo9, t9 1 = t 1 → t9 3 = wo → t9 6 = iv i → t9 5 = eo9 → Row HW H9 54 2 (O ++ tag W[i] X).length ((O ++ tag W[i] X).map edv).flatten eo9 → Q (.exit 4) t9 (rdy H9)) : wpA Try.prog (.loop L22_2) Q t (rdy H1) := by
  refine loop_at (InvE2 HW t W[i] X r O) X.length ?_ ?_
  · exact ⟨0, eo, by omega, rfl, rfl, rfl, t5, t7, t8, by simpa [tag] using row, hr, hrs⟩
  · rintro k tt H2 ⟨j, eo2, hjk, u1, u3, u6, u5, u7, u8, row2, hr2, hrs2⟩
    obtain ⟨ar, cr, hrl⟩ := hr2.len
    cases k with
    | zero =>
      have e1 : ¬ ((j : Int) < X.length) := by omega
      have e2 : j = X.length := by omega
      rw [e2, List.take_length] at row2
      have hq := fun (t9 : Tm) (h1 : t9 1 = tt 1) (h3 : t9 3 = tt 3) (h6 : t9 6 = tt 6) (h5 : t9 5 = tt 5) => hQ t9 H2 eo2 (h1.trans u1) ((h3.trans u3).trans t3) ((h6.trans u6).trans t6) (h5.trans u5) row2
      rw [hrl] at u7
      simp [L22_2, u8, u7, e1]
      exact hq _ (by simp) (by simp) (by simp) (by simp)
    | succ k =>
      have hjl : j < X.length := by omega
      have e1 : ((j : Int) < X.length) := by omega
      have e4 : IntKind.i64.wrap ((j : Int) + 1) = ((j + 1 : Nat) : Int) := by rw [w64 _ (by omega)]; omega
      obtain ⟨b, off, c, hrb, ldr⟩ := hr2.at hjl
      obtain ⟨b2, off2, c2, hwb, ldw⟩ := (hWo.keep hwW row2.base row2.keep).at hi
      have htk : X.take (j + 1) = X.take j ++ [X[j]] := by rw [List.take_add_one, List.getElem?_eq_getElem hjl]; rfl
      obtain ⟨v, hv⟩ : ∃ v, v = X[j] := ⟨_, rfl⟩
      obtain ⟨w, hw⟩ : ∃ w, w = W[i] := ⟨_, rfl⟩
      rw [← hv] at ldr htk
      rw [← hw] at ldw
      have hlen : (O ++ tag W[i] (X.take j)).length ≤ 1000000 := by rw [List.length_append, tag_len, List.length_take]; omega
      obtain ⟨HA, eo3, ap, row3, nA, bA, kA, newA⟩ := row2.push2 [iv v, iv w] rfl (by decide) 16 (by omega)
      have hO : O ++ tag W[i] (X.take (j + 1)) = (O ++ tag W[i] (X.take j)) ++ [(v, w)] := by rw [htk, hw]; simp [tag]
      have hz : zerosA [iv 0, iv 0] 2 = [iv 0, iv 0] := rfl
      obtain ⟨jN, hjN⟩ : ∃ n : Nat, n = j + 1 := ⟨_, rfl⟩
      rw [← hjN] at e4 hO
      have u3' := u3
      have u7' := u7
      rw [t3, hwb] at u3
      rw [hrb] at u7
      rw [t6] at u6
      simp [L22_2, u8, u7, e1, hjl, ldr, u3, u6, hi, ldw, hz, u5, ap, e4]
      refine ⟨k, by omega, jN, eo3, by omega, by simp [u1], by simp [u3, t3, hwb], by simp [u6, t6], by simp, by simp [u7, hrb], by simp, ?_, ?_, ?_⟩
      · rw [hO, snoc_len, snoc_cells]
        exact row3
      · exact hr2.frame bA (fun b' hb' => kA b' (hrs2 b' hb').1 (hrs2 b' hb').2)
      · intro b' hb'
        refine ⟨Nat.lt_of_lt_of_le (hrs2 b' hb').1 nA, fun h => ?_⟩
        have h1 := newA b' h
        have h2 := (hrs2 b' hb').1
        omega
def InvE3 (HW : Heap) (bx : Nat) (wo : Value) (U : List Ed) (W : List Int) (k : Nat) (t : Tm) (H1 : Heap) : Prop :=
  ∃ i O eo, i + k = W.length ∧ t 1 = ptr bx ∧ t 3 = wo ∧ t 5 = eo ∧ t 6 = iv i ∧ OrdV U W i O ∧ O.length ≤ 500 * i ∧ Row HW H1 54 2 O.length (O.map edv).flatten eo
theorem redges_T {H : Heap} (hw : H.WF) {room : Int} {x : Value} {U : List Ed} (hu : UR H x U) (hl : U.length ≤ 500) :
    ∃ o H', T Try.prog 22 [.agg (rv room x).toArray] H o H' ∧ ∃ O, Row H H' 54 2 O.length (O.map edv).flatten o ∧ Ordered O ∧ (∀ e, e ∈ O ↔ e ∈ U) ∧ O.length ≤ 10000000 := by
  refine T_by hm light22 ?_
  have hc : (Value.agg (rv room x).toArray).cells.toList = rv room x := rfl
  obtain ⟨HE, hHE⟩ : ∃ HE, HE = H.new 36 2 (rv room x) := ⟨_, rfl⟩
  have on : On H HE := by rw [hHE]; exact (On.refl hw).new _ _ _
  have hu2 := hu.on hw on
  have bE : HE.blk H.next = some ⟨36, 2, rv room x⟩ := by rw [hHE]; simp
  have nE : HE.next = H.next + 1 := by rw [hHE]; simp
  have hnB := hw.next_ge
  have hz : zerosA [iv 0] 1 = [iv 0] := rfl
  have box : ∀ H1 : Heap, On HE H1 → H1.load ⟨H.next, 1, none⟩ = some x ∧ H1.loadN ⟨H.next, 0, none⟩ 0 2 = some (rv room x) := by
    intro H1 o1
    have b1 : H1.blk H.next = some ⟨36, 2, rv room x⟩ := by rw [o1.keep _ (by omega)]; exact bE
    have hB : ¬ H.next < H1.B := by rw [B_eq (o1.base.trans on.base)]; exact hnB
    exact ⟨by rw [load_at hB b1]; rfl, by rw [loadN_at hB b1 (by simp [rv])]; rfl⟩
  simp only [L22]
  simp [hc, ← hHE]
  refine ⟨rfl, ?_⟩
  refine loop_at (InvE1 HE H.next U) U.length ?_ ?_
  · exact ⟨0, .slice none 0 0, by omega, by simp, by simp, by simp, Row.nil on.wf _ _⟩
  · rintro k t H1 ⟨i, o, hik, t1, t3, t4, row⟩
    obtain ⟨ld1, -⟩ := box H1 row.onH
    have hu3 : UR H1 x U := hu2.on on.wf row.onH
    obtain ⟨a, c, hx⟩ := hu3.len
    rw [List.length_map] at hx
    cases k with
    | succ k =>
      have hil : i < U.length := by omega
      have e1 : ((i : Int) < U.length) := by omega
      have e4 : IntKind.i64.wrap ((i : Int) + 1) = ((i + 1 : Nat) : Int) := by rw [w64 _ (by omega)]; omega
      obtain ⟨b, off, c2, hxe, l0, l1⟩ := row_edges hu3 hil
      have hwt := wrs_take U i hil
      have hwl := wrs_len (U.take i)
      have hwl2 : (U.take i).length ≤ i := by simp; omega
      obtain ⟨iN, hiN⟩ : ∃ n : Nat, n = i + 1 := ⟨_, rfl⟩
      rw [← hiN] at e4 hwt
      rw [hxe] at ld1
      obtain ⟨HA, ap, row2⟩ := row.push [iv U[i].2] rfl (by decide) 8 (by omega)
      simp [L22_1, t4, t1, ld1, e1, hil, l1, hz, t3, ap, e4]
      refine ⟨k, by omega, iN, _, by omega, by simp [t1], by simp; rfl, by simp, ?_⟩
      rw [hwt]
      have q1 : (wrs (U.take i) ++ [U[i].2]).length = (wrs (U.take i)).length + 1 := by simp
      have q2 : (wrs (U.take i) ++ [U[i].2]).map iv = (wrs (U.take i)).map iv ++ [iv U[i].2] := by simp
      rw [q1, q2]
      exact row2
    | zero =>
      have e1 : ¬ ((i : Int) < U.length) := by omega
      have e2 : i = U.length := by omega
      rw [e2, List.take_length] at row
      have hwl := wrs_len U
      obtain ⟨wo, HW, hT, W, rowW, sv, hWl⟩ := sorted_T row.wf row.own.ints (by omega)
      have rowWE := row.onH.row rowW
      have hWo := rowW.own.ints
      rw [hx] at ld1
      simp [L22_1, t4, t1, ld1, e1]
      refine goT_of (by rw [t3]; exact hT) ?_
      simp
      refine loop_at (InvE3 HW H.next wo U W) W.length ?_ ?_
      · exact ⟨0, [], .slice none 0 0, by omega, by simp [t1], by simp, by simp, by simp, ⟨List.Pairwise.nil, by simp⟩, by simp, Row.nil rowW.wf _ _⟩
      · rintro k t' H2 ⟨i, O, eo, hik, u1, u3, u5, u6, ov, hOl, rowO⟩
        have onO : On HE H2 := rowWE.onH.trans rowO.onH
        obtain ⟨-, ldN⟩ := box H2 onO
        obtain ⟨aw, cw, hwo⟩ := hWo.len
        cases k with
        | zero =>
          have f1 : ¬ ((i : Int) < W.length) := by omega
          have f2 : i = W.length := by omega
          have rowF := (on.trans rowWE.onH).row rowO
          obtain ⟨ae, heo⟩ := rowO.own.len
          rw [hwo] at u3
          rw [heo] at u5 rowF
          simp [L22_3, u6, u3, f1, u5]
          have hmem : ∀ e, e ∈ O ↔ e ∈ U := by
            intro e
            rw [ov.mem e, f2, List.take_length, sv.mem]
            exact ⟨fun h => h.1, fun h => ⟨h, List.mem_map.2 ⟨e, h, rfl⟩⟩⟩
          exact ⟨O, rowF, ov.ord, fun a b => hmem (a, b), by omega⟩
        | succ k =>
          have hil : i < W.length := by omega
          have f1 : ((i : Int) < W.length) := by omega
          have e4 : IntKind.i64.wrap ((i : Int) + 1) = ((i + 1 : Nat) : Int) := by rw [w64 _ (by omega)]; omega
          obtain ⟨b2, off2, c2, hwb, ldw⟩ := (hWo.keep rowW.wf rowO.base rowO.keep).at hil
          have hu4 : UR H2 x U := hu2.on on.wf onO
          obtain ⟨r, H3, hR, X, rowX, svX, hXl⟩ := rreaders_T (room := room) rowO.wf hu4 W[i] (by omega)
          obtain ⟨iN, hiN⟩ : ∃ n : Nat, n = i + 1 := ⟨_, rfl⟩
          have ov2 := ov.more sv.inc hil svX
          rw [← hiN] at e4 ov2
          have rowO3 := rowO.later rowX.onH
          have u3' := u3
          rw [hwb] at u3
          simp [L22_3, u6, u3, f1, u1, ldN, hil, ldw]
          refine goT_of hR ?_
          simp
          refine inner_T rowW.wf hil hWo (by omega) (by omega) rowO3 rowX.own.ints (fun b hb => ⟨rowX.own.lt rowX.wf hb, fun h => ?_⟩) (by simp [u3, hwb]) (by simp [u6]) (by simp [u5]) (by simp) (by simp) ?_
          · have h1 := rowX.new b hb
            have h2 := rowO.own.lt rowO.wf h
            omega
          · intro t9 H9 eo9 g1 g3 g6 g5 row9
            simp at g1
            simp [g6, e4]
            refine ⟨k, by omega, iN, O ++ tag W[i] X, eo9, by omega, by simp [g1, u1], by simp [g3], by simp [g5], by simp, ov2, ?_, row9⟩
            rw [List.length_append, tag_len, hiN]
            omega
end Go.Proofs.Ytadegahkgpedgaa
