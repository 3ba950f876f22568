/-
  Chapter 21: the document's Chain.
-/
import Derived.Test.YthclcdboialfnaaSeatAD
namespace Go.Proofs.Ythclcdboialfnaa
open Go.Ot Go.RowKit
set_option linter.unusedSimpArgs false
set_option linter.unusedVariables false
theorem Row.push' {H H1 : Heap} {ety sz n : Nat} {cells : List Value} {y : Value} (h : Row H H1 ety sz n cells y) (row : List Value) (hr : row.length = sz) (h0 : 0 < sz) (bytes : Nat) (hb : (n + 1) * bytes ≤ 140737488355328) :
    ∃ HA, sAppend (H1.new ety sz row) ety sz bytes y (.slice (some ⟨H1.next, 0, none⟩) 1 0) = some (.slice (some ⟨H1.next + 1, 0, none⟩) (n + 1) 0, HA) ∧ Row H HA ety sz (n + 1) (cells ++ row) (.slice (some ⟨H1.next + 1, 0, none⟩) (n + 1) 0) ∧
      HA.base = H1.base ∧ ∀ b, b < H1.next → blkOf y ≠ some b → HA.blk b = H1.blk b := by
  have h2 := h.onN ety sz row
  have hn1 := h.on.wf.next_ge
  have src : srcCells (H1.new ety sz row) sz (.slice (some ⟨H1.next, 0, none⟩) 1 0) = some (1, row) := by
    rw [src_at (ety := ety) (cs := row) (by simpa using hn1) (by simp) (by simp [hr])]
    simp [← hr]
  refine ⟨_, append_any h2.own src (by decide) hb, ?_, by simp, fun b hb hy => ?_⟩
  · have hnx := h.on.next
    refine ⟨?_, ⟨WF_new (WF_drop h2.on.wf _) _ _ _, by simp [h.on.base], by simp; omega, fun b hb => ?_⟩, fun b hb => ?_⟩
    · exact Own.mk (by have := h.own.1; simp [this, hr, Nat.add_mul]) (by simp; omega) (by simp)
    · have m1 : b ≠ H1.next + 1 := by omega
      have m2 : b ≠ H1.next := by omega
      have m3 : blkOf y ≠ some b := fun hy => by have := h.new b hy; omega
      simp [m1, m2, blk_drop, m3, h.on.keep b hb]
    · simp at hb; omega
  · have m1 : b ≠ H1.next + 1 := by omega
    have m2 : b ≠ H1.next := by omega
    simp [m1, m2, blk_drop, hy]
structure MinW (l : List Vx) (a below : Int) (i : Nat) (b : Vx) (f : Bool) : Prop where
  no : f = false → ∀ j (hj : j < l.length), j < i → ¬ (l[j].a = a ∧ below < l[j].g)
  yes : f = true → (∃ j, ∃ hj : j < l.length, j < i ∧ l[j] = b) ∧ b.a = a ∧ below < b.g ∧ ∀ j (hj : j < l.length), j < i → l[j].a = a → below < l[j].g → b.g ≤ l[j].g
theorem MinW.skip {l : List Vx} {a below : Int} {i : Nat} {b : Vx} {f : Bool} (h : MinW l a below i b f) (hi : i < l.length) (hs : ¬ (l[i].a = a ∧ below < l[i].g) ∨ f = true ∧ b.g ≤ l[i].g) : MinW l a below (i + 1) b f := by
  refine ⟨fun e j hj hji => ?_, fun e => ?_⟩
  · by_cases e2 : j = i
    · subst e2
      rcases hs with hs | hs
      · exact hs
      · rw [e] at hs; cases hs.1
    · exact h.no e j hj (by omega)
  · obtain ⟨⟨j, hj, hji, hjb⟩, h2, h3, h4⟩ := h.yes e
    refine ⟨⟨j, hj, by omega, hjb⟩, h2, h3, fun m hm hmi ha hg => ?_⟩
    by_cases e2 : m = i
    · subst e2
      rcases hs with hs | hs
      · exact absurd ⟨ha, hg⟩ hs
      · exact hs.2
    · exact h4 m hm (by omega) ha hg
theorem MinW.take {l : List Vx} {a below : Int} {i : Nat} {b : Vx} {f : Bool} (h : MinW l a below i b f) (hi : i < l.length) (ha : l[i].a = a) (hg : below < l[i].g) (hs : f = true → l[i].g < b.g) : MinW l a below (i + 1) l[i] true := by
  refine ⟨fun e => (by cases e), fun _ => ⟨⟨i, hi, by omega, rfl⟩, ha, hg, fun m hm hmi ha2 hg2 => ?_⟩⟩
  by_cases e2 : m = i
  · subst e2; exact Int.le_refl _
  · cases hf : f with
    | false => exact absurd ⟨ha2, hg2⟩ (h.no hf m hm (by omega))
    | true =>
      obtain ⟨_, _, _, h4⟩ := h.yes hf
      have := h4 m hm (by omega) ha2 hg2
      have := hs hf
      omega
def InvC1 (H0 : Heap) (q r : Nat) (l : List Vx) (y3 : Value) (a below : Int) (k : Nat) (t : Tm) (H1 : Heap) : Prop :=
  ∃ i b f, i + k = l.length ∧ t 1 = iv a ∧ t 2 = ptr q ∧ t 5 = y3 ∧ t 6 = iv below ∧ t 7 = ptr r ∧ t 8 = .bool f ∧ t 9 = iv (i : Nat) ∧ Fr H0 H1 r ∧ Vr H1 r 71 3 (vrow b) ∧ MinW l a below i b f
theorem minW_round {H0 : Heap} (hw0 : H0.WF) {q r : Nat} (hqr : q ≠ r) {W R : Int} {l : List Vx} {y y3 : Value} (hy : Rv H0 y l) (hyr : ∀ b, blkOf y = some b → b < H0.next ∧ b ≠ r) (vq : Vr H0 q 40 3 [iv W, iv R, y]) (hrn : r < H0.next) (hl : l.length ≤ 100000) {a below : Int} {Q : Post} (hQ : ∀ t H1, InvC1 H0 q r l y3 a below 0 t H1 → Q .normal t (rdy H1))
    (k : Nat) (t : Tm) (H1 : Heap) (h : InvC1 H0 q r l y3 a below k t H1) : wpA Try.prog L34_1 (thenA (fun t' H' => ∃ m, m < k ∧ InvC1 H0 q r l y3 a below m t' H') (blockA 2 Q)) t (rdy H1) := by
  obtain ⟨i, b0, f, hik, t1, t2, t5, t6, t7, t8, t9, fr, v8, hM⟩ := h
  have d2 : H1.load ⟨q, 2, none⟩ = some y := (vq.fr hw0 hqr fr).load 2
  have hy1 : Rv H1 y l := Rws.keepB fr.base (fun b hb => fr.keep b (hyr b hb).1 (hyr b hb).2) hy
  obtain ⟨ay, cy, hye⟩ := hy.len
  have hwf := fr.wf
  cases k with
  | zero =>
    have e0 : i = l.length := by omega
    have d2' := d2
    rw [hye] at d2'
    simp [L34_1, t2, t9, d2', e0]
    exact hQ _ _ ⟨i, b0, f, by omega, by simp [t1], by simp [t2], by simp [t5], by simp [t6], by simp [t7], by simp [t8], by simp [t9, e0], fr, v8, hM⟩
  | succ k =>
    have hi : i < l.length := by omega
    have hiI : (i : Int) < (l.length : Int) := by omega
    obtain ⟨b, off, c, hxb, ldN, _, _, _⟩ := hy1.get hi
    have d2'' := d2
    rw [hxb] at d2''
    have w1 : IntKind.i64.wrap ((i : Int) + 1) = ((i + 1 : Nat) : Int) := by rw [w64 _ (by omega)]; omega
    obtain ⟨o, ho⟩ : ∃ o, o = l[i] := ⟨_, rfl⟩
    rw [← ho] at ldN
    have stn := new_storeA hwf 71 3 [iv 0, iv 0, iv 0] (vrow o) rfl rfl (by decide)
    obtain ⟨HD, hHD⟩ : ∃ HD, HD = H1.new 71 3 (vrow o) := ⟨_, rfl⟩
    have onD : On H1 HD := by rw [hHD]; exact (On.refl hwf).new _ _ _
    have vD : Vr HD H1.next 71 3 (vrow o) := by rw [hHD]; exact Vr.mk' hwf _ _ _
    rw [← hHD] at stn
    have v8D := v8.on hwf onD
    have frD := fr.trans (onD.fr r)
    have q0 : HD.load ⟨H1.next, 0, none⟩ = some (iv o.a) := vD.load 0
    have q1 : HD.load ⟨H1.next, 1, none⟩ = some (iv o.g) := vD.load 1
    have b1 : HD.load ⟨r, 1, none⟩ = some (iv b0.g) := v8D.load 1
    have ldq := vD.loadA (m := 3) rfl
    have sv := v8D.storeA (m := 3) (by decide) (vrow o) rfl rfl
    have v8E := v8D.put (vrow o)
    have frE := frD.put (vrow o)
    obtain ⟨HE, hHE⟩ : ∃ HE, HE = HD.put r (vrow o) := ⟨_, rfl⟩
    rw [← hHE] at sv v8E frE
    have fin : ∀ (t' : Tm) (H2 : Heap) (b' : Vx) (f' : Bool), t' 1 = iv a → t' 2 = ptr q → t' 5 = y3 → t' 6 = iv below → t' 7 = ptr r → t' 8 = .bool f' → t' 9 = iv ((i + 1 : Nat) : Int) → Fr H0 H2 r → Vr H2 r 71 3 (vrow b') → MinW l a below (i + 1) b' f' → ∃ m, m < k + 1 ∧ InvC1 H0 q r l y3 a below m t' H2 :=
      fun t' H2 b' f' p1 p2 p5 p6 p7 p8 p9 p11 p12 p13 => ⟨k, by omega, i + 1, b', f', by omega, p1, p2, p5, p6, p7, p8, p9, p11, p12, p13⟩
    by_cases ca : o.a = a
    · have e1 : (o.a == a) = true := by simp [ca]
      by_cases cg : below < o.g
      · cases f with
        | false =>
          have tk := hM.take hi (by rw [← ho]; exact ca) (by rw [← ho]; exact cg) (fun e => by cases e)
          rw [← ho] at tk
          simp [L34_1, t1, t2, t6, t7, t8, t9, d2'', hi, hiI, ldN, stn, q0, q1, e1, cg, ldq, sv, w1]
          exact fin _ _ o true (by simp [t1]) (by simp [t2]) (by simp [t5]) (by simp [t6]) (by simp [t7]) (by simp) (by simp) frE v8E tk
        | true =>
          by_cases cb : o.g < b0.g
          · have tk := hM.take hi (by rw [← ho]; exact ca) (by rw [← ho]; exact cg) (fun _ => by rw [← ho]; exact cb)
            rw [← ho] at tk
            simp [L34_1, t1, t2, t6, t7, t8, t9, d2'', hi, hiI, ldN, stn, q0, q1, e1, cg, b1, cb, ldq, sv, w1]
            exact fin _ _ o true (by simp [t1]) (by simp [t2]) (by simp [t5]) (by simp [t6]) (by simp [t7]) (by simp) (by simp) frE v8E tk
          · simp [L34_1, t1, t2, t6, t7, t8, t9, d2'', hi, hiI, ldN, stn, q0, q1, e1, cg, b1, cb, w1]
            exact fin _ _ b0 true (by simp [t1]) (by simp [t2]) (by simp [t5]) (by simp [t6]) (by simp [t7]) (by simp [t8]) (by simp) frD v8D (hM.skip hi (.inr ⟨rfl, by rw [← ho]; omega⟩))
      · simp [L34_1, t1, t2, t6, t7, t8, t9, d2'', hi, hiI, ldN, stn, q0, q1, e1, cg, w1]
        exact fin _ _ b0 f (by simp [t1]) (by simp [t2]) (by simp [t5]) (by simp [t6]) (by simp [t7]) (by simp [t8]) (by simp) frD v8D (hM.skip hi (.inl fun h => by rw [← ho] at h; exact cg h.2))
    · have e1 : (o.a == a) = false := by simp [ca]
      simp [L34_1, t1, t2, t6, t7, t8, t9, d2'', hi, hiI, ldN, stn, q0, q1, e1, w1]
      exact fin _ _ b0 f (by simp [t1]) (by simp [t2]) (by simp [t5]) (by simp [t6]) (by simp [t7]) (by simp [t8]) (by simp) frD v8D (hM.skip hi (.inl fun h => by rw [← ho] at h; exact ca h.1))
def inC (a below : Int) (x : Vx) : Bool := decide (x.a = a ∧ below < x.g)
def InvC2 (HA : Heap) (q : Nat) (l : List Vx) (a : Int) (k : Nat) (t : Tm) (H1 : Heap) : Prop :=
  ∃ (X : List Vx) (below : Int) (y3 : Value), (l.filter (inC a below)).length ≤ k ∧ X.length + (l.filter (inC a below)).length ≤ l.length ∧ t 1 = iv a ∧ t 2 = ptr q ∧ t 5 = y3 ∧ t 6 = iv below ∧ Row HA H1 71 3 X.length (vc X) y3 ∧
    X.Pairwise (fun x z => x.g < z.g) ∧ (∀ x, x ∈ X → x ∈ l ∧ x.a = a ∧ x.g ≤ below) ∧ (∀ v ∈ l, v.a = a → -1 < v.g → v.g ≤ below → ∃ x ∈ X, x.g = v.g) ∧ -1 ≤ below
def ChainR (H : Heap) (l : List Vx) (a : Int) (v : Value) (H' : Heap) : Prop := ∃ X : List Vx, Row H H' 71 3 X.length (vc X) v ∧ X.Pairwise (fun x z => x.g < z.g) ∧ (∀ x, x ∈ X → x ∈ l ∧ x.a = a) ∧ ∀ v ∈ l, v.a = a → -1 < v.g → ∃ x ∈ X, x.g = v.g
theorem chainD_T {H : Heap} (hw : H.WF) {y : Value} {l : List Vx} (hy : Rv H y l) (hyl : ∀ b, blkOf y = some b → b < H.next) (hl : l.length ≤ 100000) (W R a : Int) : ∃ v H', T Try.prog 34 [sV W R y, iv a] H v H' ∧ ChainR H l a v H' := by
  obtain ⟨HA, hHA⟩ : ∃ HA, HA = H.new 40 3 [iv W, iv R, y] := ⟨_, rfl⟩
  have onA : On H HA := by rw [hHA]; exact (On.refl hw).new _ _ _
  have vA : Vr HA H.next 40 3 [iv W, iv R, y] := by rw [hHA]; exact Vr.mk' hw _ _ _
  have hnA : HA.next = H.next + 1 := by rw [hHA]; rfl
  have hyA := hy.on hw onA
  refine T_by hm light34 ?_
  simp [L34, sV, ← hHA]
  refine loop_at (InvC2 HA H.next l a) l.length ?_ ?_
  · refine ⟨[], -1, .slice none 0 0, List.length_filter_le _ _, by simpa using List.length_filter_le _ _, by simp, by simp, by simp, by simp, by simpa [vc] using Row.nil onA.wf 71 3, by simp, by simp, fun v _ _ h1 h2 => by omega, by omega⟩
  · rintro k t H1 ⟨X, below, y3, hk, hX, t1, t2, t5, t6, row, hr, hm1, hm2, hb0⟩
    have on1 := row.on
    have hw1 := on1.wf
    have n1 := on1.next
    obtain ⟨a3, h3⟩ := row.own.len
    have hnt : notTup y3 = true := by rw [h3]; rfl
    obtain ⟨HB, hHB⟩ : ∃ HB, HB = H1.new 71 3 [iv 0, iv 0, iv 0] := ⟨_, rfl⟩
    have stn : sStore (H1.new 71 3 [iv 0, iv 0, iv 0]) 3 (ptr H1.next) (.agg #[iv 0, iv 0, iv 0]) = some HB := by
      rw [hHB]; exact new_storeA hw1 71 3 [iv 0, iv 0, iv 0] [iv 0, iv 0, iv 0] rfl rfl (by decide)
    have onB : On H1 HB := by rw [hHB]; exact (On.refl hw1).new _ _ _
    have vB : Vr HB H1.next 71 3 [iv 0, iv 0, iv 0] := by rw [hHB]; exact Vr.mk' hw1 _ _ _
    have nB : HB.next = H1.next + 1 := by rw [hHB]; rfl
    have onAB := on1.trans onB
    have vqB := vA.on onA.wf onAB
    have hyB := hyA.on onA.wf onAB
    simp [L34_2, stn]
    refine loop_at (InvC1 HB H.next H1.next l y3 a below) l.length ?_ ?_
    · exact ⟨0, ⟨0, 0, 0⟩, false, by omega, by simp [t1], by simp [t2], by simp [t5], by simp [t6], by simp, by simp, by simp, Fr.refl onB.wf _, vB, ⟨fun _ j _ h => by omega, fun e => (by cases e)⟩⟩
    refine minW_round onB.wf (by omega) hyB (fun b hb => by have := hyl b hb; omega) vqB (by omega) hl ?_
    rintro t' H2 ⟨i, b0, f, hik, u1, u2, u5, u6, u7, u8, u9, fr, v8, hM⟩
    have ei : i = l.length := by omega
    subst ei
    have n2 := fr.next
    have on2 : On H1 H2 := ⟨fr.wf, fr.base.trans onB.base, by omega, fun b hb => by rw [fr.keep b (by omega) (by omega), onB.keep b hb]⟩
    have row2 : Row HA H2 71 3 X.length (vc X) y3 := ⟨Own.on hw1 row.own on2, on1.trans on2, row.new⟩
    cases f with
    | false =>
      have nob := hM.no rfl
      simp [u8, u5, hnt, packV]
      refine ⟨X, ⟨row2.own, onA.trans row2.on, fun b hb => Nat.le_trans onA.next (row.new b hb)⟩, hr, fun x hx => ⟨(hm1 x hx).1, (hm1 x hx).2.1⟩, fun v hv ha hg => ?_⟩
      refine hm2 v hv ha hg ?_
      obtain ⟨j, hj, rfl⟩ := List.mem_iff_getElem.1 hv
      have := nob j hj hj
      refine Int.not_lt.1 fun h => this ⟨ha, h⟩
    | true =>
      obtain ⟨⟨j, hj, _, hjb⟩, hba, hbb, hmin⟩ := hM.yes rfl
      obtain ⟨HC, ap, row3, hcb, hck⟩ := row2.push' (vrow b0) rfl (by decide) 24 (by omega)
      have ldb := v8.loadA (m := 3) rfl
      have z3 : zerosA [iv 0, iv 0, iv 0] 3 = [iv 0, iv 0, iv 0] := rfl
      have v8C : Vr HC H1.next 71 3 (vrow b0) := v8.keep hcb (hck _ (by omega) (fun hyb => by
        have := row.own.lt hw1 hyb; omega))
      have b1 : HC.load ⟨H1.next, 1, none⟩ = some (iv b0.g) := v8C.load 1
      have hlt : (l.filter (inC a b0.g)).length < (l.filter (inC a below)).length := by
        have h1 : (l.filter (inC a b0.g)) = (l.filter (inC a below)).filter (inC a b0.g) := by
          rw [List.filter_filter]
          refine List.filter_congr fun x _ => ?_
          unfold inC
          rw [Bool.eq_iff_iff]
          simp
          omega
        rw [h1]
        refine List.length_filter_lt_length_iff_exists.2 ⟨b0, List.mem_filter.2 ⟨by rw [← hjb]; exact List.getElem_mem hj, by simp [inC, hba, hbb]⟩, by simp [inC]⟩
      have vl : (vrow b0).length = 3 := rfl
      rw [h3] at u5
      have ap' := ap
      rw [h3] at ap'
      simp [u8, u5, u7, ldb, z3, vl, ap', b1]
      refine ⟨_, Nat.lt_of_lt_of_le hlt hk, ?_⟩
      show InvC2 HA H.next l a _ _ HC
      refine ⟨X ++ [b0], b0.g, _, Nat.le_refl _, by simp; omega, by simp [u1], by simp [u2], rfl, by simp, by simpa [vc_snoc] using row3, ?_, fun x hx => ?_, fun v hv ha hg hle => ?_, by omega⟩
      · refine List.pairwise_append.2 ⟨hr, by simp, fun x hx c hc => ?_⟩
        rw [List.mem_singleton] at hc
        subst hc
        have := (hm1 x hx).2.2
        omega
      · rw [List.mem_append, List.mem_singleton] at hx
        rcases hx with hx | rfl
        · have := hm1 x hx
          exact ⟨this.1, this.2.1, by omega⟩
        · exact ⟨by rw [← hjb]; exact List.getElem_mem hj, hba, Int.le_refl _⟩
      · by_cases hx : v.g ≤ below
        · obtain ⟨x, h1, h2⟩ := hm2 v hv ha hg hx
          exact ⟨x, by simp [h1], h2⟩
        · obtain ⟨m, hmm, rfl⟩ := List.mem_iff_getElem.1 hv
          have := hmin m hmm hmm ha (by omega)
          exact ⟨b0, by simp, by omega⟩
end Go.Proofs.Ythclcdboialfnaa
