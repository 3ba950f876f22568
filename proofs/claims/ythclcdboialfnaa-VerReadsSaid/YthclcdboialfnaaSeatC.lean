/-
  Chapter 21: the older version.
-/
import Derived.Test.YthclcdboialfnaaSeatB
namespace Go.Proofs.Ythclcdboialfnaa
open Go.Ot Go.RowKit
set_option linter.unusedSimpArgs false
set_option linter.unusedVariables false
/-- What is kept beside what stands: chains rise, slots are each one's own, the free ones are free. -/
structure PL (D : SD) (W R : Nat) : Prop where
  hW : D.xs.length = W
  hch : D.ch.length = W
  hR : D.vals.length = R
  hu : D.us.length = R
  R1 : R < 1000
  W1 : W < 1000
  rise : ∀ a (h : a < D.ch.length), Rise D.ch[a]
  long : ∀ a (h : a < D.ch.length), D.ch[a].length ≤ R
  own : ∃ own : Nat → Option (Nat × Int), ∀ a (h : a < D.ch.length), ∀ q ∈ D.ch[a], 0 ≤ q.2 ∧ q.2 < R ∧ D.us.getD q.2.toNat false = true ∧ own q.2.toNat = some (a, q.1)
  frok : ∀ s ∈ D.fr, 0 ≤ s ∧ s < R ∧ D.us.getD s.toNat false = false
  nodup : D.fr.Nodup
  frR : D.fr.length ≤ R
def olderV (D : SD) (l : List Lk) (i : Nat) : Value := if i = 0 then .tuple #[.agg #[iv 0, iv 0], .bool false] else .tuple #[.agg #[iv (l.getD (i - 1) (0, 0)).1, iv (D.vals.getD (l.getD (i - 1) (0, 0)).2.toNat 0)], .bool true]
theorem older_T {H : Heap} (hw : H.WF) {p W R : Nat} {D : SD} (h : ST H p D) (pl : PL D W R) {a : Nat} (ha : a < D.xs.length) (ha' : a < D.ch.length) (age : Int) :
    ∃ i : Nat, PlaceV D.ch[a] age i ∧ T Try.prog 11 [ptr p, iv a, iv age] H (olderV D D.ch[a] i) H := by
  have pR := pl.R1
  obtain ⟨HA, hHA⟩ : ∃ HA, HA = H.new 33 2 [iv 0, iv 0] := ⟨_, rfl⟩
  have onA : On H HA := by rw [hHA]; exact (On.refl hw).new _ _ _
  have nA : HA.next = H.next + 1 := by rw [hHA]; simp
  have vA : Vr HA H.next 33 2 [iv 0, iv 0] := by rw [hHA]; exact Vr.mk' hw _ _ _
  have sA := h.on hw onA
  have hll := pl.long a ha'
  obtain ⟨i, hP, hT⟩ := place_T onA.wf sA ha ha' (pl.rise a ha') (by omega) age
  refine ⟨i, hP, ?_⟩
  obtain ⟨V, hV⟩ : ∃ V, V = olderV D D.ch[a] i := ⟨_, rfl⟩
  rw [← hV]
  unfold olderV at hV
  refine T_seen hm light11 (by rw [hV]; split <;> rfl) ?_
  have iT := inside_T sA (a : Int)
  have hin : inV D (a : Int) = true := by simp [inV, ha]
  rw [hin] at iT
  have haI : (a : Int) < (D.xs.length : Int) := by omega
  simp [L11, ← hHA]
  refine goT_of iT ?_
  simp
  refine goT_of hT ?_
  obtain ⟨l, hlD⟩ : ∃ l, l = D.ch[a] := ⟨_, rfl⟩
  rw [← hlD] at hP hV hll ⊢
  by_cases hi0 : i = 0
  · rw [if_pos hi0] at hV
    have s0 := vA.storeA (m := 2) (by decide) [iv 0, iv 0] rfl rfl
    rw [vA.same] at s0
    have ld := vA.loadA (m := 2) rfl
    simp [hi0, s0, ld, hV]
    exact onA.keep
  · rw [if_neg hi0] at hV
    have hi0b : ((i : Int) == 0) = false := beq_eq_false_iff_ne.2 (by omega)
    have hle := hP.le
    obtain ⟨j, hj⟩ : ∃ j : Nat, j = i - 1 := ⟨_, rfl⟩
    have hjl : j < l.length := by omega
    have hjI : (j : Int) < (l.length : Int) := by omega
    have w1 : IntKind.i64.wrap ((i : Int) - 1) = (j : Int) := by rw [w64 _ (by omega)]; omega
    have lc := sA.lc ha
    have cn := sA.cn a ha ha'
    obtain ⟨x, hxD⟩ : ∃ x, x = D.xs[a] := ⟨_, rfl⟩
    rw [← hxD] at lc
    rw [← hlD, ← hxD] at cn
    obtain ⟨b, c, hxb, _, _, ldN⟩ := cn.get hjl
    simp only [Nat.zero_add] at ldN
    have hgd : l.getD j (0, 0) = l[j] := by simp [List.getD, hjl]
    rw [← hj, hgd] at hV
    obtain ⟨own, hown⟩ := pl.own
    have hmem : l[j] ∈ l := List.getElem_mem hjl
    have hown' := hown a ha'
    rw [← hlD] at hown'
    have hq := hown' _ hmem
    obtain ⟨q, hqq⟩ : ∃ q, q = l[j] := ⟨_, rfl⟩
    rw [← hqq] at ldN hV hq
    obtain ⟨s, hs⟩ : ∃ s, s = q.2.toNat := ⟨_, rfl⟩
    have eqs : q.2 = (s : Int) := by omega
    have hsR : s < D.vals.length := by rw [pl.hR]; omega
    have hsI : (s : Int) < (D.vals.length : Int) := by omega
    have hvd : D.vals.getD s 0 = D.vals[s] := by simp [List.getD, hsR]
    rw [← hs, hvd] at hV
    rw [eqs] at ldN
    have st := new_storeA onA.wf 65 2 [iv 0, iv 0] [iv q.1, iv s] rfl rfl (by decide)
    obtain ⟨HB, hHB⟩ : ∃ HB, HB = HA.new 65 2 [iv q.1, iv s] := ⟨_, rfl⟩
    have onB : On HA HB := by rw [hHB]; exact (On.refl onA.wf).new _ _ _
    have vB : Vr HB HA.next 65 2 [iv q.1, iv s] := by rw [hHB]; exact Vr.mk' onA.wf _ _ _
    have vA2 := vA.on onA.wf onB
    rw [← hHB, nA] at st
    rw [nA] at vB
    have f0 : HB.load ⟨H.next + 1, 0, none⟩ = some (iv q.1) := vB.load 0
    have f1 : HB.load ⟨H.next + 1, 1, none⟩ = some (iv s) := vB.load 1
    have sB := sA.on onA.wf onB
    have lv := sB.lv hsR
    have sf := vA2.storeA (m := 2) (by decide) [iv q.1, iv D.vals[s]] rfl rfl
    have ld := (vA2.put [iv q.1, iv D.vals[s]]).loadA (m := 2) rfl
    have onC : On H (HB.put H.next [iv q.1, iv D.vals[s]]) := (onA.trans onB).put (Nat.le_refl _) _
    rw [hxb] at lc
    simp [hi0b, hi0, sA.l2, ha, haI, lc, w1, hjl, hjI, ldN, nA, st, f0, f1, sB.l1, hsR, hsI, lv, sf, ld, hV]
    exact onC.keep
end Go.Proofs.Ythclcdboialfnaa
