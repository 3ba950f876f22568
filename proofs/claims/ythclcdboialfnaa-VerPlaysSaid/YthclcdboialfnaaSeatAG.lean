/-
  Chapter 21: whatever is put and dropped, a store is the document's.
-/
import Derived.Test.YthclcdboialfnaaSeatAF
import Derived.Test.YthclcdboialfnaaSeatZ
namespace Go.Proofs.Ythclcdboialfnaa
open Go.Ot Go.ChangeShapes Go.WideShapes Go.ChangeAt Go.RowKit
set_option linter.unusedSimpArgs false
set_option linter.unusedVariables false
theorem arenaErr_T {H : Heap} {R : Int} (hR : R < 1 ∨ 512 < R) : T Try.prog 18 [iv R] H (.tuple #[.pointer none, iv 161]) H := by
  refine T_eq hm light18 ?_
  by_cases h1 : R < 1
  · simp [L18, h1, packV]
  · have h2 : 512 < R := by omega
    simp [L18, h1, h2, packV]
theorem newErr_T {H : Heap} {W R : Int} (h : W < 1 ∨ 64 < W ∨ R < 1 ∨ 512 < R) : ∃ e, e ≠ 0 ∧ T Try.prog 6 [iv W, iv R] H (.tuple #[.pointer none, iv e]) H ∧ e = if W < 1 ∨ 64 < W then 130 else 161 := by
  by_cases h1 : W < 1
  · refine ⟨130, by decide, T_seenX hm lightX6 rfl ?_, by rw [if_pos (.inl h1)]⟩
    simp [L6, h1, packV]
  by_cases h2 : 64 < W
  · refine ⟨130, by decide, T_seenX hm lightX6 rfl ?_, by rw [if_pos (.inr h2)]⟩
    simp [L6, h1, h2, packV]
  · refine ⟨161, by decide, T_seenX hm lightX6 rfl ?_, by rw [if_neg (by omega)]⟩
    simp [L6, h1, h2]
    refine goT_of (arenaErr_T (by omega)) ?_
    simp [packV]
theorem refNewErr_T {H : Heap} (hw : H.WF) {W R : Int} (h : W < 1 ∨ 64 < W ∨ R < 1 ∨ 512 < R) : T Try.prog 13 [iv W, iv R] H (.tuple #[sV 0 0 (.slice none 0 0), iv (if W < 1 ∨ 64 < W then 130 else 161)]) H := by
  obtain ⟨HA, hHA⟩ : ∃ HA, HA = H.new 40 3 [iv 0, iv 0, .slice none 0 0] := ⟨_, rfl⟩
  have onA : On H HA := by rw [hHA]; exact (On.refl hw).new _ _ _
  have vA : Vr HA H.next 40 3 [iv 0, iv 0, .slice none 0 0] := by rw [hHA]; exact Vr.mk' hw _ _ _
  have sf := vA.storeA (m := 3) (by decide) [iv 0, iv 0, .slice none 0 0] rfl rfl
  rw [vA.same] at sf
  have ld := vA.loadA (m := 3) rfl
  obtain ⟨e, he⟩ : ∃ e : Int, e = if W < 1 ∨ 64 < W then 130 else 161 := ⟨_, rfl⟩
  rw [← he]
  refine T_seen hm light13 rfl ?_
  by_cases h1 : W < 1
  · rw [if_pos (.inl h1)] at he
    simp [L13, h1, ← hHA, sf, ld, packV, sV, he]
    exact onA.keep
  by_cases h2 : 64 < W
  · rw [if_pos (.inr h2)] at he
    simp [L13, h1, h2, ← hHA, sf, ld, packV, sV, he]
    exact onA.keep
  rw [if_neg (by omega)] at he
  by_cases h3 : R < 1
  · simp [L13, h1, h2, h3, ← hHA, sf, ld, packV, sV, he]
    exact onA.keep
  · have h4 : 512 < R := by omega
    simp [L13, h1, h2, h3, h4, ← hHA, sf, ld, packV, sV, he]
    exact onA.keep
/-- The store and the document's, while they are played. -/
structure Pl (H H1 : Heap) (p q W R : Nat) (D : SD) (y : Value) (rl : List Vx) : Prop where
  on : On H H1
  st : ST H1 p D
  pl : PL D W R
  vq : Vr H1 q 40 3 [iv W, iv R, y]
  rv : Rv H1 y rl
  yn : ∀ b, blkOf y = some b → b < H1.next ∧ ¬ Mine p D b ∧ b ≠ q
  mn : ∀ b, Mine p D b → H.next ≤ b ∧ b ≠ q
  qn : H.next ≤ q
  rel : Rel D W R rl
def InvV (H : Heap) (x : Value) (l : List Cl) (W R p q : Nat) (k : Nat) (t : Tm) (H1 : Heap) : Prop :=
  ∃ i D y rl, i + k = l.length ∧ t 2 = x ∧ t 7 = ptr p ∧ t 9 = ptr q ∧ t 11 = iv (i : Nat) ∧ Pl H H1 p q W R D y rl ∧ rl.length ≤ i
theorem roundV {H : Heap} (hw : H.WF) {x : Value} {l : List Cl} (hx : Rc H x l) (hl : l.length ≤ 120) {W R p q : Nat} {Q : Post} (hQ : ∀ t H1, InvV H x l W R p q 0 t H1 → Q .normal t (rdy H1))
    (k : Nat) (t : Tm) (H1 : Heap) (h : InvV H x l W R p q k t H1) : wpN Try.prog L5_1 (thenA (fun t' H' => ∃ m, m < k ∧ InvV H x l W R p q m t' H') (blockA 0 Q)) t (rdy H1) := by
  obtain ⟨i, D, y, rl, hik, t2, t7, t9, t11, P, hrl⟩ := h
  obtain ⟨ax, cx, hxl⟩ := hx.len
  cases k with
  | zero =>
    have e0 : i = l.length := by omega
    have t2' := t2
    rw [hxl] at t2'
    simp [L5_1, t2', t11, e0]
    exact hQ _ _ ⟨i, D, y, rl, by omega, by simp [t2], by simp [t7], by simp [t9], by simp [t11, e0], P, hrl⟩
  | succ k =>
    have hi : i < l.length := by omega
    have hiI : (i : Int) < (l.length : Int) := by omega
    obtain ⟨b, off, c, hxb, ld⟩ := (hx.on hw P.on).get hi
    obtain ⟨o, ho⟩ : ∃ o, o = l[i] := ⟨_, rfl⟩
    rw [← ho] at ld
    have t2' := t2.trans hxb
    have ldq := P.vq.loadA (m := 3) rfl
    obtain ⟨v, H2, oT, y', bb, D', rl', rfl, st2, pl2, rv2, yn2, hll, fm, _, hrel, _⟩ := one_T P.on.wf P.st P.pl P.rv (fun b hb => ⟨(P.yn b hb).1, (P.yn b hb).2.1⟩) (by omega) o
    obtain ⟨rfl, rel2⟩ := hrel P.rel
    have hq1 : q < H1.next := P.on.wf.lt P.vq.bq
    have hq2 : ¬ Mine p D q := fun h1 => (P.mn q h1).2 rfl
    have vq2 : Vr H2 q 40 3 [iv W, iv R, y] := P.vq.keep fm.base (fm.keep q hq1 hq2)
    obtain ⟨h1, h2⟩ := fm.old (n := H.next) P.on.next (fun b hb => (P.mn b hb).1)
    have on2 : On H H2 := ⟨fm.wf, fm.base.trans P.on.base, Nat.le_trans P.on.next fm.next, fun b hb => by rw [h1 b hb, P.on.keep b hb]⟩
    have sq := vq2.storeA (m := 3) (by decide) [iv W, iv R, y'] rfl rfl
    have hq3 : ¬ Mine p D' q := fun hm' => by
      rcases fm.new q hm' with h3 | h3
      · exact hq2 h3
      · omega
    have vq3 := vq2.put [iv W, iv R, y']
    have on3 := on2.put P.qn [iv W, iv R, y']
    have yq : ∀ b, blkOf y' = some b → b ≠ q := fun b hb => by
      rcases (yn2 b hb).2.2 with h3 | h3
      · exact (P.yn b h3).2.2
      · omega
    have P3 : Pl H (H2.put q [iv W, iv R, y']) p q W R D' y' rl' := by
      refine ⟨on3, st2.beside hq3 _, pl2, vq3, Rws.keepB (H := H2) (H' := H2.put q [iv W, iv R, y']) rfl (fun b hb => by simp [yq b hb]) rv2, fun b hb => ⟨(yn2 b hb).1, (yn2 b hb).2.1, yq b hb⟩, fun b hb => ⟨h2 b hb, fun e => hq3 (by rw [← e]; exact hb)⟩, P.qn, rel2⟩
    obtain ⟨H3, hH3⟩ : ∃ H3, H3 = H2.put q [iv W, iv R, y'] := ⟨_, rfl⟩
    rw [← hH3] at sq vq3 P3
    have ld3 := vq3.loadA (m := 3) rfl
    have sT := same_T P3.on.wf P3.st P3.pl P3.rv (fun b hb => (P3.yn b hb).1) (by omega) P3.rel
    have w1 : IntKind.i64.wrap ((i : Int) + 1) = ((i + 1 : Nat) : Int) := by rw [w64 _ (by omega)]; omega
    simp only [sV, orow] at oT ld sT
    simp [L5_1, t2', t7, t9, t11, hi, hiI, ldq, ld]
    refine goT_of oT ?_
    simp [t9, sV, sq, t7, ld3]
    refine goN_T sT ?_
    simp [t11, w1]
    exact ⟨k, by omega, i + 1, D', y', rl', by omega, by simp [t2, ← hxb], by simp [t7], by simp [t9], by simp, P3, by omega⟩
theorem playsOk_T {H : Heap} (hw : H.WF) {x : Value} {l : List Cl} (hx : Rc H x l) (hl : l.length ≤ 120) {W R : Nat} (hW : 1 ≤ W ∧ W ≤ 64) (hR : 1 ≤ R ∧ R ≤ 512) : T Try.prog 5 [iv W, iv R, x] H (.bool true) H := by
  refine T_of_N (N_by hm light5 ?_)
  obtain ⟨ax, cx, hxl⟩ := hx.len
  have h120' : ¬ (120 : Int) < (l.length : Int) := by omega
  have nN := new_N hw hW hR
  rw [hxl]
  simp [L5, h120']
  refine goN_of nN ?_
  rintro o H1 ⟨v, rfl, p, D, rfl, st, pl, fl, hc, hmn, hk⟩ hw1 hb1 hn1
  have on1 : On H H1 := ⟨hw1, hb1, hn1, hk⟩
  have hnew := refNew_T hw1 W R (by omega) (by omega)
  have stq := new_storeA hw1 40 3 [iv 0, iv 0, .slice none 0 0] [iv W, iv R, .slice none 0 0] rfl rfl (by decide)
  obtain ⟨H3, hH3⟩ : ∃ H3, H3 = H1.new 40 3 [iv W, iv R, .slice none 0 0] := ⟨_, rfl⟩
  have on3 : On H1 H3 := by rw [hH3]; exact (On.refl hw1).new _ _ _
  have vq : Vr H3 H1.next 40 3 [iv W, iv R, .slice none 0 0] := by rw [hH3]; exact Vr.mk' hw1 _ _ _
  rw [← hH3] at stq
  simp
  refine goN_T hnew ?_
  simp [sV, stq]
  rw [← hxl]
  refine loopN_at (InvV H x l W R p H1.next) l.length ?_ ?_
  · refine ⟨0, D, .slice none 0 0, [], by omega, by simp [hxl], by simp, by simp, by simp, ⟨on1.trans on3, st.on hw1 on3, pl, vq, .inl ⟨rfl, rfl⟩, (fun b hb => by cases hb), fun b hb => ⟨hmn b hb, ?_⟩, on1.next, ?_⟩, by simp⟩
    · have := st.lt hw1 hb; omega
    · exact ⟨by simp, by simp, fun a g v => by rw [hc]; simp, by simp; exact fl⟩
  refine roundV hw hx hl ?_
  rintro t H4 ⟨i, D4, y4, rl4, hik, t2, t7, t9, t11, P4, h4⟩
  have ex := example_T P4.on.wf
  simp
  refine goN_T ex ?_
  simp
  exact P4.on
theorem playsErr_T {H : Heap} (hw : H.WF) {x : Value} {l : List Cl} (hx : Rc H x l) (hl : l.length ≤ 120) {W R : Int} (h : W < 1 ∨ 64 < W ∨ R < 1 ∨ 512 < R) : T Try.prog 5 [iv W, iv R, x] H (.bool true) H := by
  refine T_of_N (N_by hm light5 ?_)
  obtain ⟨ax, cx, hxl⟩ := hx.len
  have h120' : ¬ (120 : Int) < (l.length : Int) := by omega
  obtain ⟨e, he, nT, hee⟩ := newErr_T (H := H) h
  have rT := refNewErr_T hw h
  rw [← hee] at rT
  rw [hxl]
  simp [L5, h120']
  refine goN_T nT ?_
  simp
  refine goN_T rT ?_
  obtain ⟨H3, hH3⟩ : ∃ H3, H3 = H.new 40 3 [iv 0, iv 0, .slice none 0 0] := ⟨_, rfl⟩
  have on3 : On H H3 := by rw [hH3]; exact (On.refl hw).new _ _ _
  have vq : Vr H3 H.next 40 3 [iv 0, iv 0, .slice none 0 0] := by rw [hH3]; exact Vr.mk' hw _ _ _
  have sf := vq.storeA (m := 3) (by decide) [iv 0, iv 0, .slice none 0 0] rfl rfl
  rw [vq.same] at sf
  have ex := example_T on3.wf
  simp [sV, ← hH3, sf, he]
  refine loopN_at (fun _ t' H' => t' 7 = .pointer none ∧ t' 2 = .slice ax l.length cx ∧ t' 11 = iv 0 ∧ H' = H3) 0 ⟨by simp, by simp, by simp, rfl⟩ ?_
  rintro k t' H' ⟨t7, t2, t11, rfl⟩
  by_cases h0 : (0 : Int) < (l.length : Int)
  · have h0n : 0 < l.length := by omega
    simp [L5_1, t7, t2, t11, h0, h0n]
    refine goN_T ex ?_
    simp
    exact on3
  · have h0' : l.length = 0 := by omega
    simp [L5_1, t7, t2, t11, h0, h0']
    refine goN_T ex ?_
    simp
    exact on3
theorem plays_T {H : Heap} (hw : H.WF) {x : Value} {l : List Cl} (hx : Rc H x l) (W R : Int) : T Try.prog 5 [iv W, iv R, x] H (.bool true) H := by
  by_cases hl : 120 < l.length
  · obtain ⟨ax, cx, hxl⟩ := hx.len
    have h120' : (120 : Int) < (l.length : Int) := by omega
    rw [hxl]
    refine T_of_N (N_by hm light5 ?_)
    simp [L5, h120']
    exact On.refl hw
  by_cases hv : W < 1 ∨ 64 < W ∨ R < 1 ∨ 512 < R
  · exact playsErr_T hw hx (by omega) hv
  · obtain ⟨w, rfl⟩ : ∃ w : Nat, W = w := ⟨W.toNat, by omega⟩
    obtain ⟨r, rfl⟩ : ∃ r : Nat, R = r := ⟨R.toNat, by omega⟩
    exact playsOk_T hw hx (by omega) (by omega) (by omega)
set_option maxRecDepth 100000 in
theorem plays_U {H : Heap} (hw : H.WF) {W : Int} (_ : -9223372036854775808 ≤ W ∧ W ≤ 9223372036854775807) {R : Int} (_ : -9223372036854775808 ≤ R ∧ R ≤ 9223372036854775807) {x : Value} (h0 : Rd Try.prog H 4 22 [x]) : ∃ v H', T Try.prog 5 [iv W, iv R, x] H v H' ∧ v = .bool true := by
  obtain ⟨l, hx⟩ := rd_calls h0
  exact ⟨_, _, plays_T hw hx W R, rfl⟩
end Go.Proofs.Ythclcdboialfnaa
