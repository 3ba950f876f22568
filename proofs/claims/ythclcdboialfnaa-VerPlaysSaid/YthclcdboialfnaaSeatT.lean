/-
  Chapter 21: the document's store: a list of versions; Find, Older. Chapter 21: the document's store: New, Drop, Put. Chapter 21: Get; Older out of the words; a store stands to the document's list.
-/
import Derived.Test.YthclcdboialfnaaSeatK
namespace Go.Proofs.Ythclcdboialfnaa
open Go.Ot Go.RowKit
set_option linter.unusedSimpArgs false
set_option linter.unusedVariables false
theorem Row.onN {H H1 : Heap} {ety sz n : Nat} {cells : List Value} {y : Value} (h : Row H H1 ety sz n cells y) (ty s : Nat) (cs : List Value) : Row H (H1.new ty s cs) ety sz n cells y :=
  ⟨Own.on h.on.wf h.own ((On.refl h.on.wf).new ty s cs), h.on.new ty s cs, h.new⟩
theorem Row.push {H H1 : Heap} {ety sz n : Nat} {cells : List Value} {y : Value} (h : Row H H1 ety sz n cells y) (row : List Value) (hr : row.length = sz) (h0 : 0 < sz) (bytes : Nat) (hb : (n + 1) * bytes ≤ 140737488355328) :
    ∃ HA, sAppend (H1.new ety sz row) ety sz bytes y (.slice (some ⟨H1.next, 0, none⟩) 1 0) = some (.slice (some ⟨H1.next + 1, 0, none⟩) (n + 1) 0, HA) ∧ Row H HA ety sz (n + 1) (cells ++ row) (.slice (some ⟨H1.next + 1, 0, none⟩) (n + 1) 0) := by
  have h2 := h.onN ety sz row
  have hn1 := h.on.wf.next_ge
  have src : srcCells (H1.new ety sz row) sz (.slice (some ⟨H1.next, 0, none⟩) 1 0) = some (1, row) := by
    rw [src_at (ety := ety) (cs := row) (by simpa using hn1) (by simp) (by simp [hr])]
    simp [← hr]
  refine ⟨_, append_any h2.own src (by decide) hb, ?_⟩
  have hnx := h.on.next
  refine ⟨?_, ⟨WF_new (WF_drop h2.on.wf _) _ _ _, by simp [h.on.base], by simp; omega, fun b hb => ?_⟩, fun b hb => ?_⟩
  · exact Own.mk (by have := h.own.1; simp [this, hr, Nat.add_mul]) (by simp; omega) (by simp)
  · have m1 : b ≠ H1.next + 1 := by omega
    have m2 : b ≠ H1.next := by omega
    have m3 : blkOf y ≠ some b := fun hy => by have := h.new b hy; omega
    simp [m1, m2, blk_drop, m3, h.on.keep b hb]
  · simp at hb; omega
structure Vx where
  a : Int
  g : Int
  v : Int
deriving DecidableEq, Inhabited
def vrow (q : Vx) : List Value := [iv q.a, iv q.g, iv q.v]
abbrev Rv (H : Heap) (y : Value) (l : List Vx) : Prop := Rws H 3 y (l.map vrow)
theorem vrow_len (l : List Vx) : ∀ r ∈ l.map vrow, r.length = 3 := by
  intro r hr; obtain ⟨q, _, rfl⟩ := List.mem_map.1 hr; rfl
theorem Rv.len {H : Heap} {x : Value} {l : List Vx} (h : Rv H x l) : ∃ a c, x = .slice a l.length c := by
  obtain ⟨a, c, e⟩ := Rws.len h
  exact ⟨a, c, by simpa using e⟩
theorem Rv.on {H H1 : Heap} (hw : H.WF) {x : Value} {l : List Vx} (h : Rv H x l) (o : On H H1) : Rv H1 x l := Rws.keep hw o.base o.keep h
theorem Rv.get {H : Heap} {x : Value} {l : List Vx} (h : Rv H x l) {i : Nat} (hi : i < l.length) :
    ∃ b off c, x = .slice (some ⟨b, off, none⟩) l.length c ∧ H.loadN ⟨b, off + i * 3, none⟩ 0 3 = some (vrow l[i]) ∧ H.load ⟨b, off + i * 3, none⟩ = some (iv l[i].a) ∧ H.load ⟨b, off + i * 3 + 1, none⟩ = some (iv l[i].g) ∧ H.load ⟨b, off + i * 3 + 2, none⟩ = some (iv l[i].v) := by
  obtain ⟨b, off, c, hx, h1, h2, h3⟩ := Rws.at h (i := i) (by simpa using hi)
  simp only [List.getElem_map] at h2 h3
  exact ⟨b, off, c, by simpa using hx, h2, h3 0 (by simp [vrow]), h3 1 (by simp [vrow]), h3 2 (by simp [vrow])⟩
theorem Row.rv {H H1 : Heap} {l : List Vx} {y : Value} (h : Row H H1 71 3 l.length (l.map vrow).flatten y) : Rv H1 y l := by
  have h' : Own H1 71 3 (l.map vrow).length (l.map vrow).flatten y := by simpa using h.own
  exact h'.rws (vrow_len l)
def sV (W R : Int) (y : Value) : Value := .agg #[iv W, iv R, y]
/-! ### Find -/
def at_ (q : Vx) (a g : Int) : Prop := q.a = a ∧ q.g = g
instance (q : Vx) (a g : Int) : Decidable (at_ q a g) := by unfold at_; infer_instance
def FindV (l : List Vx) (a g r : Int) : Prop := (r = -1 ∧ ∀ q ∈ l, ¬ at_ q a g) ∨ ∃ i : Nat, ∃ h : i < l.length, r = i ∧ at_ l[i] a g ∧ ∀ j (hj : j < l.length), j < i → ¬ at_ l[j] a g
def InvFd (HA : Heap) (q : Nat) (l : List Vx) (a g : Int) (k : Nat) (t : Tm) (H1 : Heap) : Prop :=
  ∃ i : Nat, i + k = l.length ∧ t 1 = iv a ∧ t 2 = iv g ∧ t 3 = ptr q ∧ t 7 = iv i ∧ H1 = HA ∧ ∀ j (hj : j < l.length), j < i → ¬ at_ l[j] a g
theorem find_T {H : Heap} (hw : H.WF) {y : Value} {l : List Vx} (hy : Rv H y l) (hl : l.length ≤ 100000) (W R a g : Int) : ∃ r, T Try.prog 26 [sV W R y, iv a, iv g] H (iv r) H ∧ FindV l a g r := by
  have : ∃ v H', T Try.prog 26 [sV W R y, iv a, iv g] H v H' ∧ (∃ r, v = iv r ∧ FindV l a g r) ∧ ∀ b, b < H.next → H'.blk b = H.blk b := by
    obtain ⟨ay, cy, hye⟩ := hy.len
    obtain ⟨HA, hHA⟩ : ∃ HA, HA = H.new 40 3 [iv W, iv R, y] := ⟨_, rfl⟩
    have onA : On H HA := by rw [hHA]; exact (On.refl hw).new _ _ _
    have vA : Vr HA H.next 40 3 [iv W, iv R, y] := by rw [hHA]; exact Vr.mk' hw _ _ _
    have hyA := hy.on hw onA
    have d2 : HA.load ⟨H.next, 2, none⟩ = some y := vA.load 2
    refine T_by hm light26 ?_
    simp [L26, sV, ← hHA]
    refine loop_at (InvFd HA H.next l a g) l.length ?_ ?_
    · exact ⟨0, by omega, by simp, by simp, by simp, by simp, rfl, fun j _ h => by omega⟩
    · rintro k t H1 ⟨i, hik, t1, t2, t3, t7, rfl, hno⟩
      have d2' := d2
      rw [hye] at d2'
      cases k with
      | zero =>
        have e0 : i = l.length := by omega
        simp [L26_1, t3, t7, d2', e0]
        exact ⟨.inl ⟨rfl, fun q hq => by obtain ⟨j, hj, rfl⟩ := List.mem_iff_getElem.1 hq; exact hno j hj (by omega)⟩, onA.keep⟩
      | succ k =>
        have hi : i < l.length := by omega
        have hiI : (i : Int) < (l.length : Int) := by omega
        obtain ⟨b, off, c, hxb, _, l0, l1, _⟩ := hyA.get hi
        have d2'' := d2
        rw [hxb] at d2''
        have w1 : IntKind.i64.wrap ((i : Int) + 1) = ((i + 1 : Nat) : Int) := by rw [w64 _ (by omega)]; omega
        have nx : ¬ at_ l[i] a g → ∀ j (hj : j < l.length), j < i + 1 → ¬ at_ l[j] a g := by
          intro h j hj hji
          by_cases e : j = i
          · subst e; exact h
          · exact hno j hj (by omega)
        by_cases ca : l[i].a = a
        · by_cases cg : l[i].g = g
          · have e1 : (l[i].a == a) = true := by simp [ca]
            have e2 : (l[i].g == g) = true := by simp [cg]
            simp [L26_1, t1, t2, t3, t7, d2'', hi, hiI, l0, l1, e1, e2]
            exact ⟨.inr ⟨i, hi, rfl, ⟨ca, cg⟩, hno⟩, onA.keep⟩
          · have e1 : (l[i].a == a) = true := by simp [ca]
            have e2 : (l[i].g == g) = false := by simp [cg]
            simp [L26_1, t1, t2, t3, t7, d2'', hi, hiI, l0, l1, e1, e2, w1]
            exact ⟨k, by omega, i + 1, by omega, by simp [t1], by simp [t2], by simp [t3], by simp, rfl, nx (fun h => cg h.2)⟩
        · have e1 : (l[i].a == a) = false := by simp [ca]
          simp [L26_1, t1, t2, t3, t7, d2'', hi, hiI, l0, l1, e1, w1]
          exact ⟨k, by omega, i + 1, by omega, by simp [t1], by simp [t2], by simp [t3], by simp, rfl, nx (fun h => ca h.1)⟩
  obtain ⟨v, H', hT, ⟨r, rfl, hr⟩, hk⟩ := this
  exact ⟨r, T_forget hT hk rfl, hr⟩
/-! ### Older -/
structure OldV (l : List Vx) (a age : Int) (i : Nat) (b : Vx) (f : Bool) : Prop where
  no : f = false → b = ⟨0, 0, 0⟩ ∧ ∀ j (hj : j < l.length), j < i → ¬ (l[j].a = a ∧ l[j].g < age)
  yes : f = true → (∃ j, ∃ hj : j < l.length, j < i ∧ l[j] = b) ∧ b.a = a ∧ b.g < age ∧ ∀ j (hj : j < l.length), j < i → l[j].a = a → l[j].g < age → l[j].g ≤ b.g
theorem OldV.skip {l : List Vx} {a age : Int} {i : Nat} {b : Vx} {f : Bool} (h : OldV l a age i b f) (hi : i < l.length) (hs : ¬ (l[i].a = a ∧ l[i].g < age) ∨ f = true ∧ l[i].g ≤ b.g) : OldV l a age (i + 1) b f := by
  refine ⟨fun e => ⟨(h.no e).1, fun j hj hji => ?_⟩, fun e => ?_⟩
  · by_cases e2 : j = i
    · subst e2
      rcases hs with hs | hs
      · exact hs
      · rw [e] at hs; cases hs.1
    · exact (h.no e).2 j hj (by omega)
  · obtain ⟨⟨j, hj, hji, hjb⟩, h2, h3, h4⟩ := h.yes e
    refine ⟨⟨j, hj, by omega, hjb⟩, h2, h3, fun m hm hmi ha hg => ?_⟩
    by_cases e2 : m = i
    · subst e2
      rcases hs with hs | hs
      · exact absurd ⟨ha, hg⟩ hs
      · exact hs.2
    · exact h4 m hm (by omega) ha hg
theorem OldV.take {l : List Vx} {a age : Int} {i : Nat} {b : Vx} {f : Bool} (h : OldV l a age i b f) (hi : i < l.length) (ha : l[i].a = a) (hg : l[i].g < age) (hs : f = true → b.g < l[i].g) : OldV l a age (i + 1) l[i] true := by
  refine ⟨fun e => (by cases e), fun _ => ⟨⟨i, hi, by omega, rfl⟩, ha, hg, fun m hm hmi ha2 hg2 => ?_⟩⟩
  by_cases e2 : m = i
  · subst e2; exact Int.le_refl _
  · cases hf : f with
    | false => exact absurd ⟨ha2, hg2⟩ ((h.no hf).2 m hm (by omega))
    | true =>
      obtain ⟨_, _, _, h4⟩ := h.yes hf
      have := h4 m hm (by omega) ha2 hg2
      have := hs hf
      omega
def InvOl (H HB : Heap) (q : Nat) (l : List Vx) (y : Value) (a age : Int) (k : Nat) (t : Tm) (H1 : Heap) : Prop :=
  ∃ i b f, i + k = l.length ∧ t 1 = iv a ∧ t 2 = iv age ∧ t 3 = ptr q ∧ t 6 = ptr (q + 1) ∧ t 8 = ptr (q + 2) ∧ t 9 = .bool f ∧ t 10 = iv (i : Nat) ∧ Fr HB H1 (q + 2) ∧ Vr H1 (q + 2) 71 3 (vrow b) ∧ OldV l a age i b f
def OldR (l : List Vx) (a age : Int) (v : Value) : Prop := ∃ b f, v = .tuple #[.agg (vrow b).toArray, .bool f] ∧ OldV l a age l.length b f
theorem oldD_T {H : Heap} (hw : H.WF) {y : Value} {l : List Vx} (hy : Rv H y l) (hl : l.length ≤ 100000) (W R a age : Int) : ∃ b f, T Try.prog 24 [sV W R y, iv a, iv age] H (.tuple #[.agg (vrow b).toArray, .bool f]) H ∧ OldV l a age l.length b f := by
  have : ∃ v H', T Try.prog 24 [sV W R y, iv a, iv age] H v H' ∧ OldR l a age v ∧ ∀ b, b < H.next → H'.blk b = H.blk b := by
    obtain ⟨ay, cy, hye⟩ := hy.len
    obtain ⟨HA, hHA⟩ : ∃ HA, HA = H.new 40 3 [iv W, iv R, y] := ⟨_, rfl⟩
    have onA : On H HA := by rw [hHA]; exact (On.refl hw).new _ _ _
    have nA : HA.next = H.next + 1 := by rw [hHA]; rfl
    have vA : Vr HA H.next 40 3 [iv W, iv R, y] := by rw [hHA]; exact Vr.mk' hw _ _ _
    obtain ⟨HB, hHB⟩ : ∃ HB, HB = HA.new 71 3 [iv 0, iv 0, iv 0] := ⟨_, rfl⟩
    have onB : On HA HB := by rw [hHB]; exact (On.refl onA.wf).new _ _ _
    have nB : HB.next = H.next + 2 := by rw [hHB]; show HA.next + 1 = _; omega
    have vB : Vr HB (H.next + 1) 71 3 [iv 0, iv 0, iv 0] := by rw [hHB, ← nA]; exact Vr.mk' onA.wf _ _ _
    have vAB := vA.on onA.wf onB
    have st := new_storeA onB.wf 71 3 [iv 0, iv 0, iv 0] [iv 0, iv 0, iv 0] rfl rfl (by decide)
    obtain ⟨HC, hHC⟩ : ∃ HC, HC = HB.new 71 3 [iv 0, iv 0, iv 0] := ⟨_, rfl⟩
    have onC : On HB HC := by rw [hHC]; exact (On.refl onB.wf).new _ _ _
    have nC : HC.next = H.next + 3 := by rw [hHC]; show HB.next + 1 = _; omega
    have vC : Vr HC (H.next + 2) 71 3 [iv 0, iv 0, iv 0] := by rw [hHC, ← nB]; exact Vr.mk' onB.wf _ _ _
    have vAC := vAB.on onB.wf onC
    have vBC := vB.on onB.wf onC
    have onAC := (onA.trans onB).trans onC
    rw [← hHC, nB] at st
    refine T_by hm light24 ?_
    simp [L24, sV, ← hHA, nA, ← hHB, nB, st, ← hHC]
    refine loop_at (InvOl H HC H.next l y a age) l.length ?_ ?_
    · exact ⟨0, ⟨0, 0, 0⟩, false, by omega, by simp, by simp, by simp, by simp, by simp, by simp, by simp, Fr.refl onC.wf _, vC, ⟨fun _ => ⟨rfl, fun j _ h => by omega⟩, fun e => (by cases e)⟩⟩
    · rintro k t H1 ⟨i, b0, f, hik, t1, t2, t3, t6, t8, t9, t10, fr, v8, hO⟩
      have n1 := fr.next
      have vA1 := vAC.fr onC.wf (by omega) fr
      have vB1 := vBC.fr onC.wf (by omega) fr
      have d2 : H1.load ⟨H.next, 2, none⟩ = some y := vA1.load 2
      have keep : ∀ b, b < H.next → H1.blk b = H.blk b := fun b hb => by rw [fr.keep b (by omega) (by omega), onAC.keep b hb]
      have on1 : On H H1 := ⟨fr.wf, fr.base.trans onAC.base, Nat.le_trans onAC.next fr.next, keep⟩
      have hy1 := hy.on hw on1
      cases k with
      | zero =>
        have e0 : i = l.length := by omega
        have d2' := d2
        rw [hye] at d2'
        have ld := v8.loadA (m := 3) rfl
        have sf := vB1.storeA (m := 3) (by decide) (vrow b0) rfl rfl
        have ld2 := (vB1.put (vrow b0)).loadA (m := 3) rfl
        have on2 : On H (H1.put (H.next + 1) (vrow b0)) := on1.put (by omega) _
        obtain ⟨H2, hH2⟩ : ∃ H2, H2 = H1.put (H.next + 1) (vrow b0) := ⟨_, rfl⟩
        rw [← hH2] at sf ld2 on2
        simp [L24_1, t3, t10, d2', e0, t8, ld, t9, t6, sf, ld2, packV]
        exact ⟨⟨b0, f, rfl, by rw [← e0]; exact hO⟩, on2.keep⟩
      | succ k =>
        have hi : i < l.length := by omega
        have hiI : (i : Int) < (l.length : Int) := by omega
        obtain ⟨b, off, c, hxb, ldN, _, _, _⟩ := hy1.get hi
        have d2'' := d2
        rw [hxb] at d2''
        have w1 : IntKind.i64.wrap ((i : Int) + 1) = ((i + 1 : Nat) : Int) := by rw [w64 _ (by omega)]; omega
        obtain ⟨q, hq⟩ : ∃ q, q = l[i] := ⟨_, rfl⟩
        rw [← hq] at ldN
        have stn := new_storeA fr.wf 71 3 [iv 0, iv 0, iv 0] (vrow q) rfl rfl (by decide)
        obtain ⟨HD, hHD⟩ : ∃ HD, HD = H1.new 71 3 (vrow q) := ⟨_, rfl⟩
        have onD : On H1 HD := by rw [hHD]; exact (On.refl fr.wf).new _ _ _
        have vD : Vr HD H1.next 71 3 (vrow q) := by rw [hHD]; exact Vr.mk' fr.wf _ _ _
        rw [← hHD] at stn
        have v8D := v8.on fr.wf onD
        have frD := fr.trans (onD.fr (H.next + 2))
        have q0 : HD.load ⟨H1.next, 0, none⟩ = some (iv q.a) := vD.load 0
        have q1 : HD.load ⟨H1.next, 1, none⟩ = some (iv q.g) := vD.load 1
        have b1 : HD.load ⟨H.next + 2, 1, none⟩ = some (iv b0.g) := v8D.load 1
        have ldq := vD.loadA (m := 3) rfl
        have sv := v8D.storeA (m := 3) (by decide) (vrow q) rfl rfl
        have v8E := v8D.put (vrow q)
        have frE := frD.put (vrow q)
        obtain ⟨HE, hHE⟩ : ∃ HE, HE = HD.put (H.next + 2) (vrow q) := ⟨_, rfl⟩
        rw [← hHE] at sv v8E frE
        have fin : ∀ (t' : Tm) (H2 : Heap) (b' : Vx) (f' : Bool), t' 1 = iv a → t' 2 = iv age → t' 3 = ptr H.next → t' 6 = ptr (H.next + 1) → t' 8 = ptr (H.next + 2) → t' 9 = .bool f' → t' 10 = iv ((i + 1 : Nat) : Int) → Fr HC H2 (H.next + 2) → Vr H2 (H.next + 2) 71 3 (vrow b') → OldV l a age (i + 1) b' f' → ∃ m, m < k + 1 ∧ InvOl H HC H.next l y a age m t' H2 :=
          fun t' H2 b' f' p1 p2 p3 p6 p8 p9 p10 p11 p12 p13 => ⟨k, by omega, i + 1, b', f', by omega, p1, p2, p3, p6, p8, p9, p10, p11, p12, p13⟩
        by_cases ca : q.a = a
        · have e1 : (q.a == a) = true := by simp [ca]
          by_cases cg : q.g < age
          · cases f with
            | false =>
              have tk := hO.take hi (by rw [← hq]; exact ca) (by rw [← hq]; exact cg) (fun e => by cases e)
              rw [← hq] at tk
              simp [L24_1, t1, t2, t3, t8, t9, t10, d2'', hi, hiI, ldN, stn, q0, q1, e1, cg, ldq, sv, w1]
              exact fin _ _ q true (by simp [t1]) (by simp [t2]) (by simp [t3]) (by simp [t6]) (by simp [t8]) (by simp) (by simp) frE v8E tk
            | true =>
              by_cases cb : b0.g < q.g
              · have tk := hO.take hi (by rw [← hq]; exact ca) (by rw [← hq]; exact cg) (fun _ => by rw [← hq]; exact cb)
                rw [← hq] at tk
                simp [L24_1, t1, t2, t3, t8, t9, t10, d2'', hi, hiI, ldN, stn, q0, q1, e1, cg, b1, cb, ldq, sv, w1]
                exact fin _ _ q true (by simp [t1]) (by simp [t2]) (by simp [t3]) (by simp [t6]) (by simp [t8]) (by simp) (by simp) frE v8E tk
              · simp [L24_1, t1, t2, t3, t8, t9, t10, d2'', hi, hiI, ldN, stn, q0, q1, e1, cg, b1, cb, w1]
                exact fin _ _ b0 true (by simp [t1]) (by simp [t2]) (by simp [t3]) (by simp [t6]) (by simp [t8]) (by simp [t9]) (by simp) frD v8D (hO.skip hi (.inr ⟨rfl, by rw [← hq]; omega⟩))
          · simp [L24_1, t1, t2, t3, t8, t9, t10, d2'', hi, hiI, ldN, stn, q0, q1, e1, cg, w1]
            exact fin _ _ b0 f (by simp [t1]) (by simp [t2]) (by simp [t3]) (by simp [t6]) (by simp [t8]) (by simp [t9]) (by simp) frD v8D (hO.skip hi (.inl fun h => by rw [← hq] at h; exact cg h.2))
        · have e1 : (q.a == a) = false := by simp [ca]
          simp [L24_1, t1, t2, t3, t8, t9, t10, d2'', hi, hiI, ldN, stn, q0, q1, e1, w1]
          exact fin _ _ b0 f (by simp [t1]) (by simp [t2]) (by simp [t3]) (by simp [t6]) (by simp [t8]) (by simp [t9]) (by simp) frD v8D (hO.skip hi (.inl fun h => by rw [← hq] at h; exact ca h.1))
  obtain ⟨v, H', hT, ⟨b, f, rfl, hr⟩, hk⟩ := this
  exact ⟨b, f, T_forget hT hk rfl, hr⟩
end Go.Proofs.Ythclcdboialfnaa
namespace Go.Proofs.Ythclcdboialfnaa
open Go.Ot Go.RowKit
set_option linter.unusedSimpArgs false
set_option linter.unusedVariables false
def keepD (a g : Int) (q : Vx) : Bool := decide (q.g ≠ g ∨ (0 ≤ a ∧ q.a ≠ a))
def vc (l : List Vx) : List Value := (l.map vrow).flatten
theorem vc_snoc (l : List Vx) (q : Vx) : vc (l ++ [q]) = vc l ++ vrow q := by simp [vc]
def InvDr (HB : Heap) (q : Nat) (l : List Vx) (y : Value) (a g : Int) (k : Nat) (t : Tm) (H1 : Heap) : Prop :=
  ∃ i y', i + k = l.length ∧ t 1 = iv a ∧ t 2 = iv g ∧ t 3 = ptr q ∧ t 6 = ptr (q + 1) ∧ t 8 = y' ∧ t 9 = iv (i : Nat) ∧ Row HB H1 71 3 ((l.take i).filter (keepD a g)).length (vc ((l.take i).filter (keepD a g))) y'
def DropR (H : Heap) (W R : Int) (m : List Vx) (n : Nat) (v : Value) (H' : Heap) : Prop := ∃ y', v = .tuple #[sV W R y', iv n] ∧ On H H' ∧ Rv H' y' m ∧ ∀ b, blkOf y' = some b → H.next ≤ b ∧ b < H'.next
theorem dropD_T {H : Heap} (hw : H.WF) {y : Value} {l : List Vx} (hy : Rv H y l) (hl : l.length ≤ 100000) (W R a g : Int) :
    ∃ v H', T Try.prog 27 [sV W R y, iv a, iv g] H v H' ∧ DropR H W R (l.filter (keepD a g)) (l.length - (l.filter (keepD a g)).length) v H' := by
  obtain ⟨ay, cy, hye⟩ := hy.len
  obtain ⟨HA, hHA⟩ : ∃ HA, HA = H.new 40 3 [iv W, iv R, y] := ⟨_, rfl⟩
  have onA : On H HA := by rw [hHA]; exact (On.refl hw).new _ _ _
  have nA : HA.next = H.next + 1 := by rw [hHA]; rfl
  have vA : Vr HA H.next 40 3 [iv W, iv R, y] := by rw [hHA]; exact Vr.mk' hw _ _ _
  obtain ⟨HB, hHB⟩ : ∃ HB, HB = HA.new 40 3 [iv 0, iv 0, .slice none 0 0] := ⟨_, rfl⟩
  have onB : On HA HB := by rw [hHB]; exact (On.refl onA.wf).new _ _ _
  have nB : HB.next = H.next + 2 := by rw [hHB]; show HA.next + 1 = _; omega
  have vB : Vr HB (H.next + 1) 40 3 [iv 0, iv 0, .slice none 0 0] := by rw [hHB, ← nA]; exact Vr.mk' onA.wf _ _ _
  have vAB := vA.on onA.wf onB
  have onAB := onA.trans onB
  refine T_by hm light27 ?_
  simp [L27, sV, ← hHA, nA, ← hHB, nB]
  refine loop_at (InvDr HB H.next l y a g) l.length ?_ ?_
  · exact ⟨0, .slice none 0 0, by omega, by simp, by simp, by simp, by simp, by simp, by simp, by simpa [vc] using Row.nil onB.wf 71 3⟩
  · rintro k t H1 ⟨i, y', hik, t1, t2, t3, t6, t8, t9, row⟩
    have on1 := row.on
    have n1 := on1.next
    have vA1 := vAB.on onB.wf on1
    have vB1 := vB.on onB.wf on1
    have d2 : H1.load ⟨H.next, 2, none⟩ = some y := vA1.load 2
    have onH1 := onAB.trans on1
    have hy1 := hy.on hw onH1
    obtain ⟨ay', hye'⟩ := row.own.len
    have tl : ((l.take i).filter (keepD a g)).length ≤ i := Nat.le_trans (List.length_filter_le _ _) (by rw [List.length_take]; omega)
    cases k with
    | zero =>
      have e0 : i = l.length := by omega
      subst e0
      rw [List.take_length] at row hye' tl
      have d2' := d2
      rw [hye] at d2'
      obtain ⟨m, hm0⟩ : ∃ m, m = (l.filter (keepD a g)).length := ⟨_, rfl⟩
      rw [← hm0] at hye' tl
      have w1 : IntKind.i64.wrap ((l.length : Int) - (m : Int)) = ((l.length - m : Nat) : Int) := by rw [w64 _ (by omega)]; omega
      have t8' := t8
      rw [hye'] at t8'
      have s2 := vA1.store 2 y' (by simp)
      rw [hye'] at s2
      have v3 := vA1.put [iv W, iv R, y']
      obtain ⟨H2, hH2⟩ : ∃ H2, H2 = H1.put H.next [iv W, iv R, y'] := ⟨_, rfl⟩
      have s2' : H1.store ⟨H.next, 2, none⟩ (.slice ay' m 0) = some H2 := by rw [s2, hH2, hye']; rfl
      rw [← hH2] at v3
      have vB2 : Vr H2 (H.next + 1) 40 3 [iv 0, iv 0, .slice none 0 0] := by rw [hH2]; exact vB1.beside (by omega) _
      have ld := v3.loadA (m := 3) rfl
      have sf := vB2.storeA (m := 3) (by decide) [iv W, iv R, y'] rfl rfl
      have ld2 := (vB2.put [iv W, iv R, y']).loadA (m := 3) rfl
      obtain ⟨H3, hH3⟩ : ∃ H3, H3 = H2.put (H.next + 1) [iv W, iv R, y'] := ⟨_, rfl⟩
      rw [← hH3] at sf ld2
      have on3 : On H H3 := by
        rw [hH3, hH2]
        exact (onH1.put (Nat.le_refl _) _).put (by omega) _
      have rv := row.rv
      have rv3 : Rv H3 y' (l.filter (keepD a g)) := by
        have ow : Own H3 71 3 (l.filter (keepD a g)).length (vc (l.filter (keepD a g))) y' := row.own.keep (B_eq (on3.base.trans onH1.base.symm)) (fun b hb => by
          have := row.new b hb
          rw [hH3, hH2]
          simp [show b ≠ H.next by omega, show b ≠ H.next + 1 by omega])
        have ow' : Own H3 71 3 ((l.filter (keepD a g)).map vrow).length ((l.filter (keepD a g)).map vrow).flatten y' := by simpa [vc] using ow
        exact ow'.rws (vrow_len _)
      simp [L27_1, t3, t9, d2', t8', t6, ld, w1, s2', sf, ld2, packV]
      exact ⟨y', by rw [hm0]; rfl, on3, rv3, fun b hb => ⟨by have := row.new b hb; omega, by
        have h1 := row.own.lt on1.wf hb
        have h2 : H3.next = H1.next := by rw [hH3, hH2]; rfl
        omega⟩⟩
    | succ k =>
      have hi : i < l.length := by omega
      have hiI : (i : Int) < (l.length : Int) := by omega
      obtain ⟨b, off, c, hxb, ldN, l0, l1, _⟩ := hy1.get hi
      have d2'' := d2
      rw [hxb] at d2''
      have w1 : IntKind.i64.wrap ((i : Int) + 1) = ((i + 1 : Nat) : Int) := by rw [w64 _ (by omega)]; omega
      obtain ⟨q, hq⟩ : ∃ q, q = l[i] := ⟨_, rfl⟩
      rw [← hq] at ldN l0 l1
      have tk : l.take (i + 1) = l.take i ++ [q] := by rw [List.take_add_one, List.getElem?_eq_getElem hi, hq]; rfl
      have ft : ∀ (bb : Bool), keepD a g q = bb → (l.take (i + 1)).filter (keepD a g) = if bb then (l.take i).filter (keepD a g) ++ [q] else (l.take i).filter (keepD a g) := by
        intro bb hb
        rw [tk, List.filter_append]
        cases bb <;> simp [hb]
      have skip : keepD a g q = false → ∀ t' : Tm, t' 1 = iv a → t' 2 = iv g → t' 3 = ptr H.next → t' 6 = ptr (H.next + 1) → t' 8 = y' → t' 9 = iv ((i + 1 : Nat) : Int) → ∃ m, m < k + 1 ∧ InvDr HB H.next l y a g m t' H1 := by
        intro hk t' p1 p2 p3 p6 p8 p9
        refine ⟨k, by omega, i + 1, y', by omega, p1, p2, p3, p6, p8, p9, ?_⟩
        rw [ft false hk]
        exact row
      obtain ⟨HC, ap, row2⟩ := row.push (vrow q) rfl (by decide) 24 (by omega)
      have sn : zerosA [iv 0, iv 0, iv 0] 3 = [iv 0, iv 0, iv 0] := rfl
      have vl : (vrow q).length = 3 := rfl
      have add : keepD a g q = true → ∀ t' : Tm, t' 1 = iv a → t' 2 = iv g → t' 3 = ptr H.next → t' 6 = ptr (H.next + 1) → t' 8 = .slice (some ⟨H1.next + 1, 0, none⟩) (((l.take i).filter (keepD a g)).length + 1) 0 → t' 9 = iv ((i + 1 : Nat) : Int) → ∃ m, m < k + 1 ∧ InvDr HB H.next l y a g m t' HC := by
        intro hk t' p1 p2 p3 p6 p8 p9
        refine ⟨k, by omega, i + 1, _, by omega, p1, p2, p3, p6, p8, p9, ?_⟩
        rw [ft true hk, if_pos rfl, List.length_append, vc_snoc]
        exact row2
      by_cases cg : q.g = g
      · have e1 : (q.g != g) = false := by simp [cg]
        by_cases ca : 0 ≤ a
        · by_cases cq : q.a = a
          · have e2 : (q.a != a) = false := by simp [cq]
            simp [L27_1, t1, t2, t3, t9, d2'', hi, hiI, l0, l1, e1, ca, e2, w1]
            exact skip (by simp [keepD, cg, cq]) _ (by simp [t1]) (by simp [t2]) (by simp [t3]) (by simp [t6]) (by simp [t8]) (by simp)
          · have e2 : (q.a != a) = true := by simp [cq]
            simp [L27_1, t1, t2, t3, t8, t9, d2'', hi, hiI, l0, l1, e1, ca, e2, ldN, sn, vl, ap, w1]
            exact add (by simp [keepD, cg, ca, cq]) _ (by simp [t1]) (by simp [t2]) (by simp [t3]) (by simp [t6]) (by simp) (by simp)
        · simp [L27_1, t1, t2, t3, t9, d2'', hi, hiI, l0, l1, e1, ca, w1]
          exact skip (by simp [keepD, cg]; intro h; omega) _ (by simp [t1]) (by simp [t2]) (by simp [t3]) (by simp [t6]) (by simp [t8]) (by simp)
      · have e1 : (q.g != g) = true := by simp [cg]
        simp [L27_1, t1, t2, t3, t8, t9, d2'', hi, hiI, l0, l1, e1, ldN, sn, vl, ap, w1]
        exact add (by simp [keepD, cg]) _ (by simp [t1]) (by simp [t2]) (by simp [t3]) (by simp [t6]) (by simp) (by simp)

theorem rws_src {H : Heap} {sz : Nat} {x : Value} {l : List (List Value)} (hs : ∀ r ∈ l, r.length = sz) (h : Rws H sz x l) : srcCells H sz x = some (l.length, l.flatten) := by
  rcases h with ⟨rfl, rfl⟩ | ⟨b, off, c, rfl, hh⟩
  · rfl
  · rw [srcCells_slice]
    have hfl := flatten_len hs
    by_cases hsz : sz = 0
    · subst hsz
      have : l.flatten = [] := List.length_eq_zero_iff.1 (by rw [hfl]; omega)
      rw [this]
      simp [Heap.loadN]
    · have := loadN_cells (H := H) (b := b) (off := off) (l := l.flatten) (i := 0) (fun j hj => by
        rw [hfl] at hj
        have hq : j / sz < l.length := by
          rw [Nat.div_lt_iff_lt_mul (by omega)]; exact hj
        have hm' : j % sz < sz := Nat.mod_lt _ (by omega)
        obtain ⟨h1, h2⟩ := hh (j / sz) hq
        have h3 := h2 (j % sz) (by rw [h1]; exact hm')
        have h4 := flatten_get hs hq (j := j % sz) (by rw [h1]; exact hm')
        have hjj : j / sz * sz + j % sz = j := by rw [Nat.mul_comm]; exact Nat.div_add_mod j sz
        rw [hjj] at h4
        have hjl : j < l.flatten.length := by rw [hfl]; exact hj
        rw [List.getElem?_eq_getElem hjl] at h4
        have : off + 0 + j = off + j / sz * sz + j % sz := by omega
        rw [this, h3]
        exact h4.symm)
      rw [hfl] at this
      rw [this]
      rfl
theorem vc_len (l : List Vx) : (vc l).length = l.length * 3 := by
  have := flatten_len (vrow_len l)
  simpa [vc] using this
theorem vc_append (a b : List Vx) : vc (a ++ b) = vc a ++ vc b := by simp [vc]
theorem row_more {H H1 : Heap} {l m : List Vx} {x y : Value} (h : Row H H1 71 3 l.length (vc l) x) (hy : Rv H1 y m) (hl : l.length ≤ 1000000) (hm' : m.length ≤ 1000000) :
    ∃ z H3, sAppend H1 71 3 24 x y = some (z, H3) ∧ Row H H3 71 3 (l ++ m).length (vc (l ++ m)) z := by
  obtain ⟨own, on, new⟩ := h
  have src := rws_src (vrow_len m) hy
  simp only [List.length_map] at src
  by_cases h0 : m.length = 0
  · have hm0 : m = [] := List.length_eq_zero_iff.1 h0
    subst hm0
    have : sAppend H1 71 3 24 x y = some (x, H1) := by
      rcases own.2 with ⟨rfl, hl0⟩ | ⟨b, rest, rfl, _⟩
      · exact append_none src (.inr ⟨rfl, rfl⟩)
      · exact append_none src (.inl rfl)
    exact ⟨x, H1, this, by simpa using own, on, new⟩
  · have ap := append_any (bytes := 24) own src h0 (by omega)
    refine ⟨_, _, ap, ⟨?_, ?_, ?_⟩⟩
    · rw [List.length_append, vc_append]
      refine Own.mk (by rw [List.length_append, vc_len, vc_len]; omega) ?_ (by simp [vc])
      simpa using on.wf.next_ge
    · refine ⟨WF_new (WF_drop on.wf _) _ _ _, by simpa using on.base, by have := on.next; simp; omega, fun b hb => ?_⟩
      have := on.next
      have h2 : blkOf x ≠ some b := fun hx => by have := new b hx; omega
      simp [show b ≠ H1.next by omega, blk_drop, h2, on.keep b hb]
    · intro b hb
      have : H1.next = b := by simpa using hb
      have := on.next
      omega
/-- A value of a row put anew. -/
theorem Row.setv {H H1 : Heap} {l : List Vx} {z : Value} (h : Row H H1 71 3 l.length (vc l) z) {i : Nat} (hi : i < l.length) (v : Int) :
    ∃ b H3, z = .slice (some ⟨b, 0, none⟩) l.length 0 ∧ H1.store ⟨b, i * 3 + 2, none⟩ (iv v) = some H3 ∧ Row H H3 71 3 (l.set i ⟨l[i].a, l[i].g, v⟩).length (vc (l.set i ⟨l[i].a, l[i].g, v⟩)) z := by
  obtain ⟨own, on, new⟩ := h
  rcases own.2 with ⟨_, hl0⟩ | ⟨b, rest, rfl, hB, hk⟩
  · omega
  · have hlt : i * 3 + 2 < (vc l ++ rest).length := by rw [List.length_append, vc_len]; omega
    have st := store_own hB hk (Nat.succ_pos 2) (off := i * 3 + 2) (v := iv v)
    rw [if_pos hlt] at st
    have hset : (vc l ++ rest).set (i * 3 + 2) (iv v) = vc (l.set i ⟨l[i].a, l[i].g, v⟩) ++ rest := by
      rw [List.set_append_left _ _ (by rw [vc_len]; omega)]
      congr 1
      conv => lhs; rw [← List.take_append_drop i l, List.drop_eq_getElem_cons hi, vc_append]
      rw [List.set_append_right _ _ (by rw [vc_len, List.length_take]; omega), vc_len, List.length_take, Nat.min_eq_left (by omega)]
      rw [show l.set i ⟨l[i].a, l[i].g, v⟩ = l.take i ++ ⟨l[i].a, l[i].g, v⟩ :: l.drop (i + 1) by rw [List.set_eq_take_append_cons_drop, if_pos hi], vc_append]
      congr 1
      rw [show i * 3 + 2 - i * 3 = 2 by omega]
      rfl
    refine ⟨b, _, rfl, st, ⟨?_, on.put (new b rfl) _, new⟩⟩
    refine ⟨by simp [vc_len], .inr ⟨b, rest, by simp, by simpa using hB, by simp [hk, hset]⟩⟩
/-! ### Put -/
def PutR (H : Heap) (y : Value) (W R : Int) (m : List Vx) (e : Int) (v : Value) (H' : Heap) : Prop := ∃ y', v = .tuple #[sV W R y', iv e] ∧ On H H' ∧ Rv H' y' m ∧ ∀ b, blkOf y' = some b → blkOf y = some b ∨ (H.next ≤ b ∧ b < H'.next)
def putVal (l : List Vx) (W R a g v r : Int) : List Vx × Int :=
  if a < 0 ∨ W ≤ a then (l, 131) else if g < 0 then (l, 210) else if r < 0 then (if (l.length : Int) = R then (l, 200) else (l ++ [⟨a, g, v⟩], 0)) else (l.set r.toNat ⟨(l.getD r.toNat default).a, (l.getD r.toNat default).g, v⟩, 0)
theorem putD_T {H : Heap} (hw : H.WF) {y : Value} {l : List Vx} (hy : Rv H y l) (hl : l.length ≤ 100000) (W R a g v : Int) :
    ∃ r, FindV l a g r ∧ ∃ u H', T Try.prog 28 [sV W R y, iv a, iv g, iv v] H u H' ∧ PutR H y W R (putVal l W R a g v r).1 (putVal l W R a g v r).2 u H' := by
  obtain ⟨ay, cy, hye⟩ := hy.len
  obtain ⟨HA, hHA⟩ : ∃ HA, HA = H.new 40 3 [iv W, iv R, y] := ⟨_, rfl⟩
  have onA : On H HA := by rw [hHA]; exact (On.refl hw).new _ _ _
  have nA : HA.next = H.next + 1 := by rw [hHA]; rfl
  have vA : Vr HA H.next 40 3 [iv W, iv R, y] := by rw [hHA]; exact Vr.mk' hw _ _ _
  obtain ⟨HB, hHB⟩ : ∃ HB, HB = HA.new 40 3 [iv 0, iv 0, .slice none 0 0] := ⟨_, rfl⟩
  have onB : On HA HB := by rw [hHB]; exact (On.refl onA.wf).new _ _ _
  have nB : HB.next = H.next + 2 := by rw [hHB]; show HA.next + 1 = _; omega
  have vB : Vr HB (H.next + 1) 40 3 [iv 0, iv 0, .slice none 0 0] := by rw [hHB, ← nA]; exact Vr.mk' onA.wf _ _ _
  have vAB := vA.on onA.wf onB
  have onAB := onA.trans onB
  have hyB := hy.on hw onAB
  obtain ⟨r, fT, hr⟩ := find_T onB.wf hyB hl W R a g
  refine ⟨r, hr, ?_⟩
  have ldA := vAB.loadA (m := 3) rfl
  have d1 : HB.load ⟨H.next, 0, none⟩ = some (iv W) := vAB.load 0
  have dR : HB.load ⟨H.next, 1, none⟩ = some (iv R) := vAB.load 1
  have d2 : HB.load ⟨H.next, 2, none⟩ = some y := vAB.load 2
  have sf := vB.storeA (m := 3) (by decide) [iv W, iv R, y] rfl rfl
  have ld2 := (vB.put [iv W, iv R, y]).loadA (m := 3) rfl
  have on3 : On H (HB.put (H.next + 1) [iv W, iv R, y]) := onAB.put (by omega) _
  obtain ⟨H3, hH3⟩ : ∃ H3, H3 = HB.put (H.next + 1) [iv W, iv R, y] := ⟨_, rfl⟩
  rw [← hH3] at sf ld2 on3
  have hy3 := hy.on hw on3
  refine T_by hm light28 ?_
  by_cases c1 : a < 0
  · have pv : putVal l W R a g v r = (l, 131) := by unfold putVal; rw [if_pos (.inl c1)]
    rw [pv]
    simp [L28, sV, ← hHA, nA, ← hHB, nB, c1, ldA, sf, ld2, packV]
    exact ⟨y, rfl, on3, hy3, fun b hb => .inl hb⟩
  by_cases c2 : W ≤ a
  · have pv : putVal l W R a g v r = (l, 131) := by unfold putVal; rw [if_pos (.inr c2)]
    rw [pv]
    simp [L28, sV, ← hHA, nA, ← hHB, nB, c1, d1, c2, ldA, sf, ld2, packV]
    exact ⟨y, rfl, on3, hy3, fun b hb => .inl hb⟩
  by_cases c3 : g < 0
  · have pv : putVal l W R a g v r = (l, 210) := by unfold putVal; rw [if_neg (by omega), if_pos c3]
    rw [pv]
    simp [L28, sV, ← hHA, nA, ← hHB, nB, c1, d1, c2, c3, ldA, sf, ld2, packV]
    exact ⟨y, rfl, on3, hy3, fun b hb => .inl hb⟩
  have d2' := d2
  rw [hye] at d2'
  have src0 : ∀ G : Heap, srcCells G 3 (.slice none 0 0) = some (0, []) := fun G => rfl
  by_cases c4 : r < 0
  · by_cases c5 : (l.length : Int) = R
    · have pv : putVal l W R a g v r = (l, 200) := by unfold putVal; rw [if_neg (by omega), if_neg c3, if_pos c4, if_pos c5]
      rw [pv]
      have e5 : ((l.length : Int) == R) = true := by simp [c5]
      simp [L28, sV, ← hHA, nA, ← hHB, nB, c1, d1, c2, c3, ldA]
      refine goT_of fT ?_
      simp [c4, d2', dR, e5, ldA, sf, ld2, packV]
      exact ⟨y, rfl, on3, hy3, fun b hb => .inl hb⟩
    · have pv : putVal l W R a g v r = (l ++ [⟨a, g, v⟩], 0) := by unfold putVal; rw [if_neg (by omega), if_neg c3, if_pos c4, if_neg c5]
      rw [pv]
      have e5 : ((l.length : Int) == R) = false := by simp [c5]
      obtain ⟨H4, hH4⟩ : ∃ H4, H4 = HB.new 71 3 [] := ⟨_, rfl⟩
      have on4 : On HB H4 := by rw [hH4]; exact (On.refl onB.wf).new _ _ _
      have row0 : Row HB H4 71 3 ([] : List Vx).length (vc []) (.slice (some ⟨HB.next, 0, none⟩) 0 0) :=
        ⟨⟨rfl, .inr ⟨HB.next, [], rfl, by rw [hH4]; simpa using onB.wf.next_ge, by rw [hH4]; simp [vc]⟩⟩, on4, fun b hb => by have : HB.next = b := Option.some.inj hb; omega⟩
      obtain ⟨z, H5, ap1, row1⟩ := row_more row0 (hyB.on onB.wf on4) (by simp) (by omega)
      rw [List.nil_append] at row1
      obtain ⟨H6, ap2, row2⟩ := row1.push (vrow ⟨a, g, v⟩) rfl (by decide) 24 (by omega)
      have e6 : vc l ++ vrow ⟨a, g, v⟩ = vc (l ++ [⟨a, g, v⟩]) := (vc_snoc _ _).symm
      rw [e6] at row2
      have on6 := row2.on
      have vA6 := vAB.on onB.wf on6
      have vB6 := vB.on onB.wf on6
      have s2 := vA6.store 2 (.slice (some ⟨H5.next + 1, 0, none⟩) (l.length + 1) 0) (by simp)
      have v7 := vA6.put [iv W, iv R, .slice (some ⟨H5.next + 1, 0, none⟩) (l.length + 1) 0]
      obtain ⟨H7, hH7⟩ : ∃ H7, H7 = H6.put H.next [iv W, iv R, .slice (some ⟨H5.next + 1, 0, none⟩) (l.length + 1) 0] := ⟨_, rfl⟩
      have s2' : H6.store ⟨H.next, 2, none⟩ (.slice (some ⟨H5.next + 1, 0, none⟩) (l.length + 1) 0) = some H7 := by rw [s2, hH7]; rfl
      rw [← hH7] at v7
      have vB7 : Vr H7 (H.next + 1) 40 3 [iv 0, iv 0, .slice none 0 0] := by rw [hH7]; exact vB6.beside (by omega) _
      have ld7 := v7.loadA (m := 3) rfl
      have sf7 := vB7.storeA (m := 3) (by decide) [iv W, iv R, .slice (some ⟨H5.next + 1, 0, none⟩) (l.length + 1) 0] rfl rfl
      have ld8 := (vB7.put [iv W, iv R, .slice (some ⟨H5.next + 1, 0, none⟩) (l.length + 1) 0]).loadA (m := 3) rfl
      obtain ⟨H8, hH8⟩ : ∃ H8, H8 = H7.put (H.next + 1) [iv W, iv R, .slice (some ⟨H5.next + 1, 0, none⟩) (l.length + 1) 0] := ⟨_, rfl⟩
      rw [← hH8] at sf7 ld8
      have on8 : On H H8 := by
        rw [hH8, hH7]
        exact ((onAB.trans on6).put (Nat.le_refl _) _).put (by omega) _
      have n6 := on6.next
      have n5 := row1.on.next
      have rv8 : Rv H8 (.slice (some ⟨H5.next + 1, 0, none⟩) (l.length + 1) 0) (l ++ [⟨a, g, v⟩]) := by
        have ow : Own H8 71 3 (l.length + 1) (vc (l ++ [⟨a, g, v⟩])) (.slice (some ⟨H5.next + 1, 0, none⟩) (l.length + 1) 0) := row2.own.keep (by rw [hH8, hH7]; rfl) (fun b hb => by
          have : H5.next + 1 = b := Option.some.inj hb
          rw [hH8, hH7]
          simp [show b ≠ H.next by omega, show b ≠ H.next + 1 by omega])
        have ow' : Own H8 71 3 ((l ++ [(⟨a, g, v⟩ : Vx)]).map vrow).length ((l ++ [(⟨a, g, v⟩ : Vx)]).map vrow).flatten (.slice (some ⟨H5.next + 1, 0, none⟩) (l.length + 1) 0) := by simpa [vc] using ow
        exact ow'.rws (vrow_len _)
      have z0 : zerosA [iv 0, iv 0, iv 0] 0 = [] := rfl
      have z3 : zerosA [iv 0, iv 0, iv 0] 3 = [iv 0, iv 0, iv 0] := rfl
      obtain ⟨az, hz⟩ := row1.own.len
      have hnz : notTup z = true := by rw [hz]; rfl
      simp only [vrow] at ap2
      simp [L28, sV, ← hHA, nA, ← hHB, nB, c1, d1, c2, c3, ldA]
      refine goT_of fT ?_
      rw [nB] at ap1
      have d4 : H4.load ⟨H.next, 2, none⟩ = some y := (vAB.on onB.wf on4).load 2
      simp [c4, d2', dR, e5, z0, ← hH4, nB, d4, ap1, z3, ap2, s2', ld7, sf7, ld8, packV]
      exact ⟨_, rfl, on8, rv8, fun b hb => .inr ⟨by have : H5.next + 1 = b := Option.some.inj hb; omega, by
        have h1 := row2.own.lt on6.wf hb
        have h2 : H8.next = H6.next := by rw [hH8, hH7]; rfl
        omega⟩⟩
  · have hrr := hr
    rcases hr with ⟨h1, _⟩ | ⟨i, hi, hri, hat, _⟩
    · omega
    · subst hri
      have pv : putVal l W R a g v i = (l.set i ⟨l[i].a, l[i].g, v⟩, 0) := by
        unfold putVal
        rw [if_neg (by omega), if_neg c3, if_neg c4]
        simp [List.getD, hi]
      rw [pv]
      obtain ⟨H4, hH4⟩ : ∃ H4, H4 = HB.new 71 3 [] := ⟨_, rfl⟩
      have on4 : On HB H4 := by rw [hH4]; exact (On.refl onB.wf).new _ _ _
      have row0 : Row HB H4 71 3 ([] : List Vx).length (vc []) (.slice (some ⟨HB.next, 0, none⟩) 0 0) :=
        ⟨⟨rfl, .inr ⟨HB.next, [], rfl, by rw [hH4]; simpa using onB.wf.next_ge, by rw [hH4]; simp [vc]⟩⟩, on4, fun b hb => by have : HB.next = b := Option.some.inj hb; omega⟩
      obtain ⟨z, H5, ap1, row1⟩ := row_more row0 (hyB.on onB.wf on4) (by simp) (by omega)
      rw [List.nil_append] at row1
      obtain ⟨bz, H6, hz, s5, row2⟩ := row1.setv hi v
      have on6 := row2.on
      have vA6 := vAB.on onB.wf on6
      have vB6 := vB.on onB.wf on6
      have s2 := vA6.store 2 z (by simp)
      have v7 := vA6.put [iv W, iv R, z]
      obtain ⟨H7, hH7⟩ : ∃ H7, H7 = H6.put H.next [iv W, iv R, z] := ⟨_, rfl⟩
      have s2' : H6.store ⟨H.next, 2, none⟩ z = some H7 := by rw [s2, hH7]; rfl
      rw [← hH7] at v7
      have vB7 : Vr H7 (H.next + 1) 40 3 [iv 0, iv 0, .slice none 0 0] := by rw [hH7]; exact vB6.beside (by omega) _
      have ld7 := v7.loadA (m := 3) rfl
      have sf7 := vB7.storeA (m := 3) (by decide) [iv W, iv R, z] rfl rfl
      have ld8 := (vB7.put [iv W, iv R, z]).loadA (m := 3) rfl
      obtain ⟨H8, hH8⟩ : ∃ H8, H8 = H7.put (H.next + 1) [iv W, iv R, z] := ⟨_, rfl⟩
      rw [← hH8] at sf7 ld8
      have on8 : On H H8 := by
        rw [hH8, hH7]
        exact ((onAB.trans on6).put (Nat.le_refl _) _).put (by omega) _
      have rv8 : Rv H8 z (l.set i ⟨l[i].a, l[i].g, v⟩) := by
        have ow : Own H8 71 3 (l.set i ⟨l[i].a, l[i].g, v⟩).length (vc (l.set i ⟨l[i].a, l[i].g, v⟩)) z := row2.own.keep (by rw [hH8, hH7]; rfl) (fun b hb => by
          have := row2.new b hb
          rw [hH8, hH7]
          simp [show b ≠ H.next by omega, show b ≠ H.next + 1 by omega])
        have ow' : Own H8 71 3 ((l.set i ⟨l[i].a, l[i].g, v⟩).map vrow).length ((l.set i ⟨l[i].a, l[i].g, v⟩).map vrow).flatten z := by simpa [vc] using ow
        exact ow'.rws (vrow_len _)
      have z0 : zerosA [iv 0, iv 0, iv 0] 0 = [] := rfl
      have d4 : H4.load ⟨H.next, 2, none⟩ = some y := (vAB.on onB.wf on4).load 2
      have i0 : ¬ (i : Int) < 0 := by omega
      have hiI : (i : Int) < (l.length : Int) := by omega
      simp [L28, sV, ← hHA, nA, ← hHB, nB, c1, d1, c2, c3, ldA]
      refine goT_of fT ?_
      rw [nB, hz] at ap1
      rw [hz] at s2' ld7 sf7 ld8
      simp [i0, d2', dR, z0, ← hH4, nB, d4, ap1, hi, hiI, s5, s2', ld7, sf7, ld8, packV]
      exact ⟨_, rfl, on8, by rw [← hz]; exact rv8, fun b hb => .inr ⟨by have := row2.new b (by rw [hz]; exact hb); omega, by
        have h1 := row2.own.lt on6.wf (b := b) (by rw [hz]; exact hb)
        have h2 : H8.next = H6.next := by rw [hH8, hH7]; rfl
        omega⟩⟩
end Go.Proofs.Ythclcdboialfnaa
namespace Go.Proofs.Ythclcdboialfnaa
open Go.Ot Go.RowKit
set_option linter.unusedSimpArgs false
set_option linter.unusedVariables false
def getF (f : Nat → Int → Option Int) (W : Nat) (a g : Int) : Option Int := if 0 ≤ a ∧ a < W then f a.toNat g else none
def getV : Option Int → Value
  | none => .tuple #[iv 0, .bool false]
  | some v => .tuple #[iv v, .bool true]
theorem get_T {H : Heap} (hw : H.WF) {p W R : Nat} {D : SD} (h : ST H p D) (pl : PL D W R) (a g : Int) : T Try.prog 25 [ptr p, iv a, iv g] H (getV (getF (cont D) W a g)) H := by
  have iT := inside_T h a
  by_cases hin : inV D a = true
  · have hin' := hin
    simp only [inV, Bool.and_eq_true, decide_eq_true_eq, pl.hW] at hin'
    obtain ⟨n, rfl⟩ : ∃ n : Nat, a = n := ⟨a.toNat, by omega⟩
    have ha : n < D.xs.length := by rw [pl.hW]; omega
    have ha' : n < D.ch.length := by rw [pl.hch]; omega
    have hR := pl.R1
    have hll := pl.long n ha'
    have gf : getF (cont D) W n g = cont D n g := by unfold getF; rw [if_pos (by omega)]; simp
    rw [gf]
    rw [hin] at iT
    obtain ⟨i, hP, pT⟩ := place_T hw h ha ha' (pl.rise n ha') (by omega) g
    by_cases hat : isAt D.ch[n] i g = true
    · obtain ⟨hi, hq, hc0⟩ := cont_at pl.toPK ha' hat
      rw [hat] at pT
      rw [hc0]
      obtain ⟨V, hV⟩ : ∃ V, V = D.vals.getD D.ch[n][i].2.toNat 0 := ⟨_, rfl⟩
      rw [← hV]
      change T _ _ _ _ (.tuple #[iv V, .bool true]) _
      have haI : (n : Int) < (D.xs.length : Int) := by omega
      have lc := h.lc ha
      obtain ⟨b, c, hxb, _, l1, _⟩ := (h.cn n ha ha').get hi
      rw [hxb] at lc
      simp only [Nat.zero_add] at l1
      obtain ⟨own, hown⟩ := pl.own
      have hqo := hown n ha' _ (List.getElem_mem hi)
      obtain ⟨q2, hq2⟩ : ∃ q2, q2 = D.ch[n][i].2 := ⟨_, rfl⟩
      rw [← hq2] at l1 hqo hV
      obtain ⟨s, hs⟩ : ∃ s, s = q2.toNat := ⟨_, rfl⟩
      have eqs : q2 = (s : Int) := by omega
      rw [eqs] at l1
      have hsR : s < D.vals.length := by rw [pl.hR]; omega
      have hsI : (s : Int) < (D.vals.length : Int) := by omega
      have lv := h.lv hsR
      have hVs : V = D.vals[s] := by rw [hV, ← hs]; simp [List.getD, hsR]
      rw [← hVs] at lv
      have hiI : (i : Int) < (D.ch[n].length : Int) := by omega
      refine T_eq hm light25 ?_
      simp [L25]
      refine goT_of iT ?_
      simp
      refine goT_of pT ?_
      simp [h.l1, h.l2, ha, haI, lc, hi, hiI, l1, hsR, hsI, lv, packV]
    · have hat' : isAt D.ch[n] i g = false := by simpa using hat
      have hc0 := cont_not pl.toPK ha' hP hat'
      rw [hat'] at pT
      rw [hc0]
      change T _ _ _ _ (.tuple #[iv 0, .bool false]) _
      refine T_eq hm light25 ?_
      simp [L25]
      refine goT_of iT ?_
      simp
      refine goT_of pT ?_
      simp [packV]
  · have hin' : inV D a = false := by simpa using hin
    have hn : ¬ (0 ≤ a ∧ a < W) := by
      intro x
      apply hin
      simp only [inV, Bool.and_eq_true, decide_eq_true_eq, pl.hW]
      exact x
    have gf : getF (cont D) W a g = none := by unfold getF; rw [if_neg hn]
    rw [gf]
    rw [hin'] at iT
    change T _ _ _ _ (.tuple #[iv 0, .bool false]) _
    refine T_eq hm light25 ?_
    simp [L25]
    refine goT_of iT ?_
    simp [packV]
theorem older_out {H : Heap} (hw : H.WF) {p : Nat} {D : SD} (h : ST H p D) {a : Int} (hin : inV D a = false) (g : Int) : T Try.prog 11 [ptr p, iv a, iv g] H (.tuple #[.agg #[iv 0, iv 0], .bool false]) H := by
  obtain ⟨HA, hHA⟩ : ∃ HA, HA = H.new 33 2 [iv 0, iv 0] := ⟨_, rfl⟩
  have onA : On H HA := by rw [hHA]; exact (On.refl hw).new _ _ _
  have vA : Vr HA H.next 33 2 [iv 0, iv 0] := by rw [hHA]; exact Vr.mk' hw _ _ _
  have sA := h.on hw onA
  refine T_seen hm light11 rfl ?_
  have iT := inside_T sA a
  rw [hin] at iT
  have s0 := vA.storeA (m := 2) (by decide) [iv 0, iv 0] rfl rfl
  rw [vA.same] at s0
  have ld := vA.loadA (m := 2) rfl
  simp [L11, ← hHA]
  refine goT_of iT ?_
  simp [s0, ld, packV]
  exact onA.keep
/-- The store holds what the list says. -/
structure Rel (D : SD) (W R : Nat) (l : List Vx) : Prop where
  keys : l.Pairwise fun p q => ¬ (p.a = q.a ∧ p.g = q.g)
  rng : ∀ q ∈ l, 0 ≤ q.a ∧ q.a < W ∧ 0 ≤ q.g
  has : ∀ (a : Nat) (g v : Int), cont D a g = some v ↔ ∃ q ∈ l, q.a = a ∧ q.g = g ∧ q.v = v
  len : D.fr.length + l.length = R
theorem Rel.uniq {D : SD} {W R : Nat} {l : List Vx} (h : Rel D W R l) {p q : Vx} (hp : p ∈ l) (hq : q ∈ l) (ha : p.a = q.a) (hg : p.g = q.g) : p = q := by
  obtain ⟨i, hi, rfl⟩ := List.mem_iff_getElem.1 hp
  obtain ⟨j, hj, rfl⟩ := List.mem_iff_getElem.1 hq
  by_cases e : i = j
  · subst e; rfl
  · rcases Nat.lt_or_gt_of_ne e with hl | hl
    · exact absurd ⟨ha, hg⟩ (List.pairwise_iff_getElem.1 h.keys i j hi hj hl)
    · exact absurd ⟨ha.symm, hg.symm⟩ (List.pairwise_iff_getElem.1 h.keys j i hj hi hl)
theorem Rel.none_iff {D : SD} {W R : Nat} {l : List Vx} (h : Rel D W R l) (a : Nat) (g : Int) : (cont D a g).isNone = true ↔ ∀ q ∈ l, ¬ at_ q a g := by
  constructor
  · intro hn q hq hat
    have := (h.has a g q.v).2 ⟨q, hq, hat.1, hat.2, rfl⟩
    rw [this] at hn
    cases hn
  · intro hn
    cases hc : cont D a g with
    | none => rfl
    | some v =>
      obtain ⟨q, hq, h1, h2, _⟩ := (h.has a g v).1 hc
      exact absurd ⟨h1, h2⟩ (hn q hq)
theorem rel_put {D D' : SD} {W R : Nat} {l : List Vx} (h : Rel D W R l) {a g v r : Int} (hr : FindV l a g r) {e : Int} (he : e = putE (cont D) W D.fr.length a g)
    (hf : D.fr.length = D'.fr.length + (if e = 0 ∧ (cont D a.toNat g).isNone = true then 1 else 0)) (hc : ∀ b g', cont D' b g' = if e = 0 ∧ b = a.toNat ∧ g' = g then some v else cont D b g') :
    (putVal l W R a g v r).2 = e ∧ Rel D' W R (putVal l W R a g v r).1 := by
  have hlen := h.len
  unfold putE at he
  unfold putVal
  by_cases c1 : a < 0 ∨ (W : Int) ≤ a
  · rw [if_pos (by omega)] at he
    rw [if_pos c1]
    rw [he] at hf hc
    simp at hf hc
    refine ⟨he.symm, ⟨h.keys, h.rng, fun b g' w => by rw [hc]; exact h.has b g' w, by show _ + l.length = R; omega⟩⟩
  · rw [if_neg (by omega)] at he
    rw [if_neg c1]
    obtain ⟨n, rfl⟩ : ∃ n : Nat, a = n := ⟨a.toNat, by omega⟩
    rw [Int.toNat_natCast] at he hf hc
    by_cases c3 : g < 0
    · rw [if_pos c3] at he
      rw [if_pos c3]
      rw [he] at hf hc
      simp at hf hc
      refine ⟨he.symm, ⟨h.keys, h.rng, fun b g' w => by rw [hc]; exact h.has b g' w, by show _ + l.length = R; omega⟩⟩
    · rw [if_neg c3] at he
      rw [if_neg c3]
      rcases hr with ⟨hr1, hr2⟩ | ⟨i, hi, hri, hat, _⟩
      · have hn := (h.none_iff n g).2 hr2
        rw [if_pos (by omega)]
        by_cases c5 : (l.length : Int) = R
        · rw [if_pos ⟨hn, by omega⟩] at he
          rw [if_pos c5]
          rw [he] at hf hc
          simp at hf hc
          refine ⟨he.symm, ⟨h.keys, h.rng, fun b g' w => by rw [hc]; exact h.has b g' w, by show _ + l.length = R; omega⟩⟩
        · rw [if_neg (by omega)] at he
          rw [if_neg c5]
          rw [he] at hf hc
          rw [if_pos ⟨rfl, hn⟩] at hf
          refine ⟨he.symm, ⟨?_, ?_, fun b g' w => ?_, by simp; omega⟩⟩
          · refine List.pairwise_append.2 ⟨h.keys, by simp, fun x hx y hy => ?_⟩
            rw [List.mem_singleton] at hy
            subst hy
            exact hr2 x hx
          · intro q hq
            rcases List.mem_append.1 hq with hq | hq
            · exact h.rng q hq
            · rw [List.mem_singleton] at hq; subst hq; exact ⟨by simp, by simp; omega, by simp; omega⟩
          · rw [hc]
            by_cases cc : b = n ∧ g' = g
            · rw [if_pos ⟨rfl, cc⟩]
              obtain ⟨rfl, rfl⟩ := cc
              constructor
              · intro e; exact ⟨⟨b, g', v⟩, by simp, rfl, rfl, Option.some.inj e⟩
              · rintro ⟨q, hq, h1, h2, h3⟩
                rcases List.mem_append.1 hq with hq | hq
                · exact absurd ⟨h1, h2⟩ (hr2 q hq)
                · rw [List.mem_singleton] at hq; subst hq; rw [← h3]
            · rw [if_neg (fun x => cc x.2), h.has]
              constructor
              · rintro ⟨q, hq, h1⟩; exact ⟨q, by simp [hq], h1⟩
              · rintro ⟨q, hq, h1, h2, h3⟩
                rcases List.mem_append.1 hq with hq | hq
                · exact ⟨q, hq, h1, h2, h3⟩
                · rw [List.mem_singleton] at hq; subst hq
                  exact absurd ⟨by simp at h1; omega, h2.symm⟩ cc
      · have hns : ¬ (cont D n g).isNone = true := fun x => (h.none_iff n g).1 x _ (List.getElem_mem hi) hat
        rw [if_neg (fun x => hns x.1)] at he
        rw [if_neg (by omega)]
        rw [he] at hf hc
        rw [if_neg (fun x => hns x.2)] at hf
        have hri' : r.toNat = i := by omega
        have hgd : l.getD i default = l[i] := by simp [List.getD, hi]
        rw [hri', hgd]
        refine ⟨he.symm, ⟨?_, ?_, fun b g' w => ?_, by simp; omega⟩⟩
        · refine List.pairwise_iff_getElem.2 fun x y hx hy hxy => ?_
          simp only [List.length_set] at hx hy
          have := List.pairwise_iff_getElem.1 h.keys x y hx hy hxy
          simp only [List.getElem_set]
          split
          · rename_i e; subst e
            split
            · omega
            · exact this
          · split
            · rename_i e; subst e; exact this
            · exact this
        · intro q hq
          rcases List.mem_or_eq_of_mem_set hq with hq | hq
          · exact h.rng q hq
          · subst hq
            have := h.rng _ (List.getElem_mem hi)
            exact this
        · rw [hc]
          have key : ∀ q, q ∈ l.set i ⟨l[i].a, l[i].g, v⟩ ↔ q = ⟨l[i].a, l[i].g, v⟩ ∨ (q ∈ l ∧ ¬ at_ q n g) := by
            intro q
            constructor
            · intro hq
              obtain ⟨j, hj, rfl⟩ := List.mem_iff_getElem.1 hq
              simp only [List.length_set] at hj
              rw [List.getElem_set]
              split
              · exact .inl rfl
              · rename_i hij
                refine .inr ⟨List.getElem_mem hj, fun hat2 => ?_⟩
                have h1 := hat2.1.trans hat.1.symm
                have h2 := hat2.2.trans hat.2.symm
                rcases Nat.lt_or_gt_of_ne hij with hl | hl
                · exact List.pairwise_iff_getElem.1 h.keys i j hi hj hl ⟨h1.symm, h2.symm⟩
                · exact List.pairwise_iff_getElem.1 h.keys j i hj hi hl ⟨h1, h2⟩
            · rintro (rfl | ⟨hq, hn⟩)
              · exact List.mem_set hi _
              · obtain ⟨j, hj, rfl⟩ := List.mem_iff_getElem.1 hq
                refine List.mem_iff_getElem.2 ⟨j, by simpa using hj, ?_⟩
                rw [List.getElem_set, if_neg]
                intro e; subst e; exact hn hat
          by_cases cc : b = n ∧ g' = g
          · rw [if_pos ⟨rfl, cc⟩]
            obtain ⟨rfl, rfl⟩ := cc
            constructor
            · intro e; exact ⟨_, (key _).2 (.inl rfl), hat.1, hat.2, Option.some.inj e⟩
            · rintro ⟨q, hq, h1, h2, h3⟩
              rcases (key q).1 hq with rfl | ⟨_, hn⟩
              · rw [← h3]
              · exact absurd ⟨h1, h2⟩ hn
          · rw [if_neg (fun x => cc x.2), h.has]
            constructor
            · rintro ⟨q, hq, h1, h2, h3⟩
              exact ⟨q, (key q).2 (.inr ⟨hq, fun x => cc ⟨by have := x.1; omega, by rw [← h2, x.2]⟩⟩), h1, h2, h3⟩
            · rintro ⟨q, hq, h1, h2, h3⟩
              rcases (key q).1 hq with rfl | ⟨hq, _⟩
              · exact absurd ⟨by have := hat.1; simp at h1; omega, by rw [← h2]; exact hat.2⟩ cc
              · exact ⟨q, hq, h1, h2, h3⟩

theorem flen {α : Type} (p : α → Bool) : ∀ l : List α, l.length = (l.filter p).length + (l.filter fun x => !p x).length
  | [] => rfl
  | a :: l => by
    have := flen p l
    cases h : p a <;> simp [List.filter_cons, h] <;> omega
theorem filter_le {α : Type} (l : List α) (p : α → Bool) : (l.filter p).length ≤ l.length := List.length_filter_le _ _
theorem Rel.sub {D D' : SD} {W R : Nat} {l : List Vx} (h : Rel D W R l) {p : Vx → Bool} (hc : ∀ (b : Nat) (g v : Int), cont D' b g = some v ↔ ∃ q ∈ l, p q = true ∧ q.a = b ∧ q.g = g ∧ q.v = v) (hf : D'.fr.length = D.fr.length + (l.length - (l.filter p).length)) : Rel D' W R (l.filter p) := by
  refine ⟨h.keys.sublist List.filter_sublist, fun q hq => h.rng q (List.mem_filter.1 hq).1, fun a g v => ?_, ?_⟩
  · rw [hc]
    constructor
    · rintro ⟨q, h1, h2, h3⟩; exact ⟨q, List.mem_filter.2 ⟨h1, h2⟩, h3⟩
    · rintro ⟨q, h1, h3⟩; exact ⟨q, (List.mem_filter.1 h1).1, (List.mem_filter.1 h1).2, h3⟩
  · have := filter_le l p
    have := h.len
    omega
theorem rel_drop {D D' : SD} {W R : Nat} {l : List Vx} (h : Rel D W R l) {a g r : Int} (hr : FindV l a g r) {b : Bool} (hb : b = true ↔ 0 ≤ a ∧ a < W ∧ (cont D a.toNat g).isSome = true)
    (hf : D'.fr.length = D.fr.length + (if b = true then 1 else 0)) (hc : ∀ c g', cont D' c g' = dropF (cont D) W a g c g') :
    b = decide (0 ≤ r) ∧ Rel D' W R (if 0 ≤ r then l.filter (keepD a g) else l) := by
  rcases hr with ⟨hr1, hr2⟩ | ⟨i, hi, hri, hat, _⟩
  · have hbf : b = false := by
      cases b with
      | false => rfl
      | true =>
        obtain ⟨h1, h2, h3⟩ := hb.1 rfl
        have := (h.none_iff a.toNat g).2 (fun q hq hat => hr2 q hq ⟨by have := hat.1; omega, hat.2⟩)
        rw [Option.isNone_iff_eq_none] at this
        rw [this] at h3
        cases h3
    subst hbf
    rw [if_neg (by omega)]
    refine ⟨by rw [hr1]; rfl, ⟨h.keys, h.rng, fun c g' v => ?_, by have := h.len; simp at hf; omega⟩⟩
    rw [hc]
    unfold dropF
    split
    · rename_i hx
      obtain ⟨h1, h2, h3, h4⟩ := hx
      constructor
      · intro e; cases e
      · rintro ⟨q, hq, e1, e2, _⟩
        exact absurd ⟨by omega, by omega⟩ (hr2 q hq)
    · exact h.has c g' v
  · have hrg := h.rng _ (List.getElem_mem hi)
    have ha : 0 ≤ a ∧ a < W := by have := hat.1; omega
    have hbt : b = true := hb.2 ⟨ha.1, ha.2, by rw [(h.has a.toNat g l[i].v).2 ⟨_, List.getElem_mem hi, by have := hat.1; omega, hat.2, rfl⟩]; rfl⟩
    subst hbt
    rw [if_pos (by omega)]
    have only : ∀ q ∈ l, keepD a g q = true ↔ ¬ at_ q a g := by
      intro q hq
      unfold keepD at_
      rw [decide_eq_true_iff]
      constructor
      · rintro h1 ⟨h2, h3⟩; rcases h1 with h1 | h1
        · exact h1 h3
        · exact h1.2 h2
      · intro h1
        by_cases hg : q.g = g
        · exact .inr ⟨ha.1, fun x => h1 ⟨x, hg⟩⟩
        · exact .inl hg
    refine ⟨by rw [eq_comm, decide_eq_true_iff]; omega, h.sub (fun c g' v => ?_) ?_⟩
    · rw [hc]
      unfold dropF
      split
      · rename_i hx
        obtain ⟨_, _, h3, h4⟩ := hx
        constructor
        · intro e; cases e
        · rintro ⟨q, hq, e0, e1, e2, _⟩
          exact absurd ⟨by omega, by omega⟩ ((only q hq).1 e0)
      · rename_i hx
        rw [h.has]
        constructor
        · rintro ⟨q, hq, e1, e2, e3⟩
          exact ⟨q, hq, (only q hq).2 (fun x => hx ⟨ha.1, ha.2, by have := x.1; omega, by rw [← e2, x.2]⟩), e1, e2, e3⟩
        · rintro ⟨q, hq, _, e⟩; exact ⟨q, hq, e⟩
    · rw [hf, if_pos rfl]
      have h1 : (l.filter fun q => !keepD a g q) = [l[i]] := by
        have hmem : ∀ q, q ∈ (l.filter fun q => !keepD a g q) ↔ q = l[i] := by
          intro q
          rw [List.mem_filter]
          constructor
          · rintro ⟨hq, hk⟩
            have : at_ q a g := Classical.byContradiction fun x => by rw [(only q hq).2 x] at hk; cases hk
            exact h.uniq hq (List.getElem_mem hi) (this.1.trans hat.1.symm) (this.2.trans hat.2.symm)
          · rintro rfl
            refine ⟨List.getElem_mem hi, ?_⟩
            cases hk : keepD a g l[i] with
            | false => rfl
            | true => exact absurd hat ((only _ (List.getElem_mem hi)).1 hk)
        have nd : (l.filter fun q => !keepD a g q).Pairwise fun p q => ¬ (p.a = q.a ∧ p.g = q.g) := h.keys.sublist List.filter_sublist
        cases hl : (l.filter fun q => !keepD a g q) with
        | nil => have := (hmem l[i]).2 rfl; rw [hl] at this; cases this
        | cons x m =>
          have hx := (hmem x).1 (by rw [hl]; simp)
          cases m with
          | nil => rw [hx]
          | cons y m =>
            have hy := (hmem y).1 (by rw [hl]; simp)
            rw [hl, hx, hy] at nd
            have := (List.pairwise_cons.1 nd).1 l[i] (by simp)
            exact absurd ⟨rfl, rfl⟩ this
      have h2 := flen (keepD a g) l
      rw [h1] at h2
      simp at h2
      omega
theorem perm_len {α : Type} [DecidableEq α] {l m : List α} (hl : l.Nodup) (hm' : m.Nodup) (h : ∀ x, x ∈ l ↔ x ∈ m) : l.length = m.length := ((List.perm_ext_iff_of_nodup hl hm').2 h).length_eq
theorem many_is {D : SD} {W R : Nat} {l : List Vx} (h : Rel D W R l) (g : Int) : manyF (cont D) g W = (l.filter fun q => decide (q.g = g)).length := by
  unfold manyF
  have := perm_len (l := (List.range W).filter fun b => (cont D b g).isSome) (m := (l.filter fun q => decide (q.g = g)).map fun q => q.a.toNat) (List.nodup_range.sublist List.filter_sublist) ?_ ?_
  · rw [this, List.length_map]
  · refine List.pairwise_map.2 ?_
    refine (h.keys.sublist List.filter_sublist).imp_of_mem ?_
    intro p q hp hq hne e
    have hp' := List.mem_filter.1 hp
    have hq' := List.mem_filter.1 hq
    simp only [decide_eq_true_eq] at hp' hq'
    have h1 := h.rng p hp'.1
    have h2 := h.rng q hq'.1
    exact hne ⟨by omega, by omega⟩
  · intro a
    rw [List.mem_filter, List.mem_range, List.mem_map]
    constructor
    · rintro ⟨h1, h2⟩
      obtain ⟨v, hv⟩ := Option.isSome_iff_exists.1 h2
      obtain ⟨q, hq, e1, e2, _⟩ := (h.has a g v).1 hv
      exact ⟨q, List.mem_filter.2 ⟨hq, by simpa using e2⟩, by omega⟩
    · rintro ⟨q, hq, e⟩
      have hq' := List.mem_filter.1 hq
      simp only [decide_eq_true_eq] at hq'
      have h1 := h.rng q hq'.1
      refine ⟨by omega, ?_⟩
      rw [(h.has a g q.v).2 ⟨q, hq'.1, by omega, hq'.2, rfl⟩]
      rfl
theorem keepD_neg (g : Int) (q : Vx) : keepD (-1) g q = !decide (q.g = g) := by
  unfold keepD
  rw [Bool.eq_iff_iff]
  simp
theorem many_len {D : SD} {W R : Nat} {l : List Vx} (h : Rel D W R l) (g : Int) : l.length - (l.filter (keepD (-1) g)).length = manyF (cont D) g W := by
  rw [many_is h]
  have h2 := flen (fun q => decide (q.g = g)) l
  have : l.filter (keepD (-1) g) = l.filter fun q => !decide (q.g = g) := List.filter_congr fun q _ => keepD_neg g q
  rw [this]
  omega
theorem rel_dropall {D D' : SD} {W R : Nat} {l : List Vx} (h : Rel D W R l) {g : Int} (hf : D'.fr.length = D.fr.length + manyF (cont D) g W) (hc : ∀ b g', cont D' b g' = if g' = g then none else cont D b g') : Rel D' W R (l.filter (keepD (-1) g)) := by
  refine h.sub (fun c g' v => ?_) (by rw [hf, many_len h])
  rw [hc]
  split
  · rename_i hx
    constructor
    · intro e; cases e
    · rintro ⟨q, hq, e0, _, e2, _⟩
      rw [keepD_neg] at e0
      simp at e0
      omega
  · rename_i hx
    rw [h.has]
    constructor
    · rintro ⟨q, hq, e1, e2, e3⟩
      exact ⟨q, hq, by rw [keepD_neg]; simp; omega, e1, e2, e3⟩
    · rintro ⟨q, hq, _, e⟩; exact ⟨q, hq, e⟩
theorem rel_get {D : SD} {W R : Nat} {l : List Vx} (h : Rel D W R l) {a g r : Int} (hr : FindV l a g r) : (r < 0 → getF (cont D) W a g = none) ∧ (0 ≤ r → ∃ hi : r.toNat < l.length, getF (cont D) W a g = some l[r.toNat].v) := by
  rcases hr with ⟨hr1, hr2⟩ | ⟨i, hi, hri, hat, _⟩
  · refine ⟨fun _ => ?_, fun hx => by omega⟩
    unfold getF
    split
    · have := (h.none_iff a.toNat g).2 (fun q hq hat => hr2 q hq ⟨by have := hat.1; omega, hat.2⟩)
      exact Option.isNone_iff_eq_none.1 this
    · rfl
  · refine ⟨fun hx => by omega, fun _ => ?_⟩
    have e : r.toNat = i := by omega
    have hrg := h.rng _ (List.getElem_mem hi)
    have ha : 0 ≤ a ∧ a < W := by have := hat.1; omega
    refine ⟨by omega, ?_⟩
    unfold getF
    rw [if_pos ha]
    refine (h.has _ _ _).2 ⟨l[i], List.getElem_mem hi, by have := hat.1; omega, hat.2, ?_⟩
    simp only [e]
theorem rel_old {D : SD} {W R : Nat} {l : List Vx} (h : Rel D W R l) {a : Nat} (ha : a < W) {age : Int} {r : Option (Int × Int)} (h1 : ∀ q v, r = some (q, v) → q < age ∧ cont D a q = some v ∧ ∀ g, g < age → (cont D a g).isSome = true → g ≤ q) (h2 : r = none → ∀ g, g < age → cont D a g = none)
    {b : Vx} {f : Bool} (ho : OldV l a age l.length b f) : (f = false → r = none ∧ b = ⟨0, 0, 0⟩) ∧ (f = true → r = some (b.g, b.v)) := by
  refine ⟨fun e => ?_, fun e => ?_⟩
  · obtain ⟨hb, hn⟩ := ho.no e
    refine ⟨?_, hb⟩
    cases r with
    | none => rfl
    | some qv =>
      obtain ⟨q, v⟩ := qv
      obtain ⟨p1, p2, _⟩ := h1 q v rfl
      obtain ⟨x, hx, e1, e2, _⟩ := (h.has a q v).1 p2
      obtain ⟨j, hj, rfl⟩ := List.mem_iff_getElem.1 hx
      exact absurd ⟨e1, by omega⟩ (hn j hj hj)
  · obtain ⟨⟨j, hj, _, hjb⟩, e1, e2, e3⟩ := ho.yes e
    have hb : b ∈ l := by rw [← hjb]; exact List.getElem_mem hj
    have hcb : cont D a b.g = some b.v := (h.has a b.g b.v).2 ⟨b, hb, e1, rfl, rfl⟩
    cases r with
    | none => have := h2 rfl b.g e2; rw [hcb] at this; cases this
    | some qv =>
      obtain ⟨q, v⟩ := qv
      obtain ⟨p1, p2, p3⟩ := h1 q v rfl
      have p4 := p3 b.g e2 (by rw [hcb]; rfl)
      obtain ⟨x, hx, x1, x2, x3⟩ := (h.has a q v).1 p2
      obtain ⟨k, hk, rfl⟩ := List.mem_iff_getElem.1 hx
      have p5 := e3 k hk hk x1 (by omega)
      have hq : q = b.g := by omega
      subst hq
      rw [hcb] at p2
      cases p2
      rfl

theorem findV_ex (l : List Vx) (a g : Int) : ∃ r, FindV l a g r := by
  have : ∀ i, i ≤ l.length → (∃ r, FindV l a g r) ∨ ∀ j (hj : j < l.length), j < i → ¬ at_ l[j] a g := by
    intro i
    induction i with
    | zero => intro _; exact .inr (fun j _ h => by omega)
    | succ i ih =>
      intro hi
      rcases ih (by omega) with h | h
      · exact .inl h
      · by_cases c : at_ (l[i]'(by omega)) a g
        · exact .inl ⟨i, .inr ⟨i, by omega, rfl, c, h⟩⟩
        · refine .inr (fun j hj hji => ?_)
          by_cases e : j = i
          · subst e; exact c
          · exact h j hj (by omega)
  rcases this l.length (Nat.le_refl _) with h | h
  · exact h
  · exact ⟨-1, .inl ⟨rfl, fun q hq => by obtain ⟨j, hj, rfl⟩ := List.mem_iff_getElem.1 hq; exact h j hj hj⟩⟩
theorem vx_nodup {D : SD} {W R : Nat} {l : List Vx} (h : Rel D W R l) : l.Nodup := h.keys.imp fun hne e => hne (by rw [e]; exact ⟨rfl, rfl⟩)
/-- Two stores that hold the same have as many free places. -/
theorem rel_free {D E : SD} {W R : Nat} {l m : List Vx} (h : Rel D W R l) (k : Rel E W R m) (hc : ∀ (a : Nat) g, cont D a g = cont E a g) : D.fr.length = E.fr.length := by
  have : l.length = m.length := perm_len (vx_nodup h) (vx_nodup k) (fun q => by
    constructor
    · intro hq
      have hr := h.rng q hq
      have h1 := (h.has q.a.toNat q.g q.v).2 ⟨q, hq, by omega, rfl, rfl⟩
      rw [hc] at h1
      obtain ⟨q', hq', e1, e2, e3⟩ := (k.has _ _ _).1 h1
      have : q' = q := by cases q; cases q'; simp at *; omega
      rw [← this]; exact hq'
    · intro hq
      have hr := k.rng q hq
      have h1 := (k.has q.a.toNat q.g q.v).2 ⟨q, hq, by omega, rfl, rfl⟩
      rw [← hc] at h1
      obtain ⟨q', hq', e1, e2, e3⟩ := (h.has _ _ _).1 h1
      have : q' = q := by cases q; cases q'; simp at *; omega
      rw [← this]; exact hq')
  have := h.len
  have := k.len
  omega
end Go.Proofs.Ythclcdboialfnaa
