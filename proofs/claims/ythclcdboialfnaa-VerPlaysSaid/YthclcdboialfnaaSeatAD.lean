/-
  Chapter 21: the document's Ages and Many; the store's Many.
-/
import Derived.Test.YthclcdboialfnaaSeatW
namespace Go.Proofs.Ythclcdboialfnaa
open Go.Ot Go.RowKit
set_option linter.unusedSimpArgs false
set_option linter.unusedVariables false
structure MinV (l : List Vx) (below : Int) (i : Nat) (b : Int) (f : Bool) : Prop where
  no : f = false → ∀ j (hj : j < l.length), j < i → ¬ below < l[j].g
  yes : f = true → (∃ j, ∃ hj : j < l.length, j < i ∧ l[j].g = b) ∧ below < b ∧ ∀ j (hj : j < l.length), j < i → below < l[j].g → b ≤ l[j].g
theorem MinV.skip {l : List Vx} {below : Int} {i : Nat} {b : Int} {f : Bool} (h : MinV l below i b f) (hi : i < l.length) (hs : ¬ below < l[i].g ∨ f = true ∧ b ≤ l[i].g) : MinV l below (i + 1) b f := by
  refine ⟨fun e j hj hji => ?_, fun e => ?_⟩
  · by_cases e2 : j = i
    · subst e2
      rcases hs with hs | hs
      · exact hs
      · rw [e] at hs; cases hs.1
    · exact h.no e j hj (by omega)
  · obtain ⟨⟨j, hj, hji, hjb⟩, h3, h4⟩ := h.yes e
    refine ⟨⟨j, hj, by omega, hjb⟩, h3, fun m hm hmi hg => ?_⟩
    by_cases e2 : m = i
    · subst e2
      rcases hs with hs | hs
      · exact absurd hg hs
      · exact hs.2
    · exact h4 m hm (by omega) hg
theorem MinV.take {l : List Vx} {below : Int} {i : Nat} {b : Int} {f : Bool} (h : MinV l below i b f) (hi : i < l.length) (hg : below < l[i].g) (hs : f = true → l[i].g < b) : MinV l below (i + 1) l[i].g true := by
  refine ⟨fun e => (by cases e), fun _ => ⟨⟨i, hi, by omega, rfl⟩, hg, fun m hm hmi hg2 => ?_⟩⟩
  by_cases e2 : m = i
  · subst e2; exact Int.le_refl _
  · cases hf : f with
    | false => exact absurd hg2 (h.no hf m hm (by omega))
    | true =>
      obtain ⟨_, _, h4⟩ := h.yes hf
      have := h4 m hm (by omega) hg2
      have := hs hf
      omega
def InvM1 (H0 : Heap) (q : Nat) (l : List Vx) (y3 : Value) (below : Int) (k : Nat) (t : Tm) (H1 : Heap) : Prop :=
  ∃ i b f, i + k = l.length ∧ t 1 = ptr q ∧ t 3 = y3 ∧ t 4 = iv below ∧ t 5 = iv b ∧ t 6 = .bool f ∧ t 7 = iv (i : Nat) ∧ H1 = H0 ∧ MinV l below i b f
theorem min_round {H0 : Heap} {q : Nat} {l : List Vx} {y y3 : Value} (hy : Rv H0 y l) (d2 : H0.load ⟨q, 2, none⟩ = some y) (hl : l.length ≤ 100000) {below : Int} {Q : Post} (hQ : ∀ t H1, InvM1 H0 q l y3 below 0 t H1 → Q .normal t (rdy H1))
    (k : Nat) (t : Tm) (H1 : Heap) (h : InvM1 H0 q l y3 below k t H1) : wpA Try.prog L31_1 (thenA (fun t' H' => ∃ m, m < k ∧ InvM1 H0 q l y3 below m t' H') (blockA 2 Q)) t (rdy H1) := by
  obtain ⟨i, b0, f, hik, t1, t3, t4, t5, t6, t7, rfl, hM⟩ := h
  obtain ⟨ay, cy, hye⟩ := hy.len
  cases k with
  | zero =>
    have e0 : i = l.length := by omega
    have d2' := d2
    rw [hye] at d2'
    simp [L31_1, t1, t7, d2', e0]
    exact hQ _ _ ⟨i, b0, f, by omega, by simp [t1], by simp [t3], by simp [t4], by simp [t5], by simp [t6], by simp [t7, e0], rfl, hM⟩
  | succ k =>
    have hi : i < l.length := by omega
    have hiI : (i : Int) < (l.length : Int) := by omega
    obtain ⟨bb, off, c, hxb, _, _, l1, _⟩ := hy.get hi
    have d2' := d2
    rw [hxb] at d2'
    have w1 : IntKind.i64.wrap ((i : Int) + 1) = ((i + 1 : Nat) : Int) := by rw [w64 _ (by omega)]; omega
    obtain ⟨g, hg⟩ : ∃ g, g = l[i].g := ⟨_, rfl⟩
    rw [← hg] at l1
    have fin : ∀ (t' : Tm) (b' : Int) (f' : Bool), t' 1 = ptr q → t' 3 = y3 → t' 4 = iv below → t' 5 = iv b' → t' 6 = .bool f' → t' 7 = iv ((i + 1 : Nat) : Int) → MinV l below (i + 1) b' f' → ∃ m, m < k + 1 ∧ InvM1 H1 q l y3 below m t' H1 :=
      fun t' b' f' p1 p3 p4 p5 p6 p7 hm' => ⟨k, by omega, i + 1, b', f', by omega, p1, p3, p4, p5, p6, p7, rfl, hm'⟩
    by_cases cg : below < g
    · cases f with
      | false =>
        have tk := hM.take hi (by rw [← hg]; exact cg) (fun e => by cases e)
        rw [← hg] at tk
        simp [L31_1, t1, t4, t6, t7, d2', hi, hiI, l1, cg, w1]
        exact fin _ g true (by simp [t1]) (by simp [t3]) (by simp [t4]) (by simp) (by simp) (by simp) tk
      | true =>
        by_cases cb : g < b0
        · have tk := hM.take hi (by rw [← hg]; exact cg) (fun _ => by rw [← hg]; exact cb)
          rw [← hg] at tk
          simp [L31_1, t1, t4, t5, t6, t7, d2', hi, hiI, l1, cg, cb, w1]
          exact fin _ g true (by simp [t1]) (by simp [t3]) (by simp [t4]) (by simp) (by simp) (by simp) tk
        · simp [L31_1, t1, t4, t5, t6, t7, d2', hi, hiI, l1, cg, cb, w1]
          exact fin _ b0 true (by simp [t1]) (by simp [t3]) (by simp [t4]) (by simp [t5]) (by simp [t6]) (by simp) (hM.skip hi (.inr ⟨rfl, by rw [← hg]; omega⟩))
    · simp [L31_1, t1, t4, t7, d2', hi, hiI, l1, cg, w1]
      exact fin _ b0 f (by simp [t1]) (by simp [t3]) (by simp [t4]) (by simp [t5]) (by simp [t6]) (by simp) (hM.skip hi (.inl (by rw [← hg]; exact cg)))
def InvM2 (HA : Heap) (q : Nat) (l : List Vx) (k : Nat) (t : Tm) (H1 : Heap) : Prop :=
  ∃ (X : List Int) (below : Int) (y3 : Value), (l.filter fun x => decide (below < x.g)).length ≤ k ∧ X.length + (l.filter fun x => decide (below < x.g)).length ≤ l.length ∧ t 1 = ptr q ∧ t 3 = y3 ∧ t 4 = iv below ∧ Row HA H1 3 1 X.length (X.map iv) y3 ∧
    X.Pairwise (· < ·) ∧ (∀ x, x ∈ X ↔ -1 < x ∧ x ≤ below ∧ ∃ v ∈ l, v.g = x) ∧ -1 ≤ below
def AgesR (H : Heap) (l : List Vx) (v : Value) (H' : Heap) : Prop := ∃ X : List Int, Row H H' 3 1 X.length (X.map iv) v ∧ X.Pairwise (· < ·) ∧ ∀ x, x ∈ X ↔ -1 < x ∧ ∃ q ∈ l, q.g = x
theorem agesD_T {H : Heap} (hw : H.WF) {y : Value} {l : List Vx} (hy : Rv H y l) (hl : l.length ≤ 100000) (W R : Int) : ∃ v H', T Try.prog 31 [sV W R y] H v H' ∧ AgesR H l v H' := by
  obtain ⟨HA, hHA⟩ : ∃ HA, HA = H.new 40 3 [iv W, iv R, y] := ⟨_, rfl⟩
  have onA : On H HA := by rw [hHA]; exact (On.refl hw).new _ _ _
  have vA : Vr HA H.next 40 3 [iv W, iv R, y] := by rw [hHA]; exact Vr.mk' hw _ _ _
  have hyA := hy.on hw onA
  refine T_by hm light31 ?_
  simp [L31, sV, ← hHA]
  refine loop_at (InvM2 HA H.next l) l.length ?_ ?_
  · refine ⟨[], -1, .slice none 0 0, List.length_filter_le _ _, by simpa using List.length_filter_le _ _, by simp, by simp, by simp, by simpa using Row.nil onA.wf 3 1, by simp, fun x => ?_, by omega⟩
    simp
    intro h1 h2
    omega
  · rintro k t H1 ⟨X, below, y3, hk, hX, t1, t3, t4, row, hr, hm1, hb0⟩
    have on1 := row.on
    have hy1 := hyA.on onA.wf on1
    have d2 : H1.load ⟨H.next, 2, none⟩ = some y := (vA.on onA.wf on1).load 2
    obtain ⟨a3, h3⟩ := row.own.len
    have hnt : notTup y3 = true := by rw [h3]; rfl
    simp [L31_2]
    refine loop_at (InvM1 H1 H.next l y3 below) l.length ?_ ?_
    · exact ⟨0, 0, false, by omega, by simp [t1], by simp [t3], by simp [t4], by simp, by simp, by simp, rfl, ⟨fun _ j _ h => by omega, fun e => (by cases e)⟩⟩
    refine min_round hy1 d2 hl ?_
    rintro t' H2 ⟨i, b0, f, hik, u1, u3, u4, u5, u6, u7, rfl, hM⟩
    have ei : i = l.length := by omega
    subst ei
    cases f with
    | false =>
      have nob := hM.no rfl
      simp [u6, u3, hnt, packV]
      refine ⟨X, ⟨row.own, onA.trans on1, fun b hb => Nat.le_trans onA.next (row.new b hb)⟩, hr, fun x => ?_⟩
      rw [hm1]
      constructor
      · rintro ⟨h1, _, h2⟩; exact ⟨h1, h2⟩
      · rintro ⟨h1, v, hv, rfl⟩
        obtain ⟨j, hj, rfl⟩ := List.mem_iff_getElem.1 hv
        have := nob j hj hj
        exact ⟨h1, by omega, _, hv, rfl⟩
    | true =>
      obtain ⟨⟨j, hj, _, hjb⟩, hbb, hmin⟩ := hM.yes rfl
      obtain ⟨HC, ap, row2⟩ := row.push [iv b0] rfl (by decide) 8 (by omega)
      have z1 : zerosA [iv 0] 1 = [iv 0] := rfl
      have hlt : (l.filter fun x => decide (b0 < x.g)).length < (l.filter fun x => decide (below < x.g)).length := by
        have h1 : (l.filter fun x => decide (b0 < x.g)) = (l.filter fun x => decide (below < x.g)).filter fun x => decide (b0 < x.g) := by
          rw [List.filter_filter]
          refine List.filter_congr fun x _ => ?_
          rw [Bool.eq_iff_iff]
          simp
          omega
        rw [h1]
        exact List.length_filter_lt_length_iff_exists.2 ⟨l[j], List.mem_filter.2 ⟨List.getElem_mem hj, by simp; omega⟩, by simp; omega⟩
      rw [h3] at u3
      have ap' := ap
      rw [h3] at ap'
      simp [u6, u3, u5, z1, ap']
      refine ⟨_, Nat.lt_of_lt_of_le hlt hk, ?_⟩
      show InvM2 HA H.next l _ _ HC
      refine ⟨X ++ [b0], b0, _, Nat.le_refl _, by simp; omega, by simp [u1], rfl, by simp, by simpa using row2, ?_, fun x => ?_, by omega⟩
      · refine List.pairwise_append.2 ⟨hr, by simp, fun a ha c hc => ?_⟩
        rw [List.mem_singleton] at hc
        have := ((hm1 a).1 ha).2.1
        omega
      · rw [List.mem_append, List.mem_singleton, hm1]
        constructor
        · rintro (⟨h1, h2, h4⟩ | rfl)
          · exact ⟨h1, by omega, h4⟩
          · exact ⟨by omega, Int.le_refl _, _, List.getElem_mem hj, hjb⟩
        · rintro ⟨h1, h2, v, hv, rfl⟩
          by_cases hx : v.g ≤ below
          · exact .inl ⟨h1, hx, v, hv, rfl⟩
          · obtain ⟨m, hm2, rfl⟩ := List.mem_iff_getElem.1 hv
            have := hmin m hm2 hm2 (by omega)
            exact .inr (by omega)
theorem manyD_T {H : Heap} (hw : H.WF) {y : Value} {l : List Vx} (hy : Rv H y l) (hl : l.length ≤ 100000) (W R g : Int) : T Try.prog 33 [sV W R y, iv g] H (iv ((l.length - (l.filter (keepD (-1) g)).length : Nat) : Int)) H := by
  obtain ⟨HA, hHA⟩ : ∃ HA, HA = H.new 40 3 [iv W, iv R, y] := ⟨_, rfl⟩
  have onA : On H HA := by rw [hHA]; exact (On.refl hw).new _ _ _
  have vA : Vr HA H.next 40 3 [iv W, iv R, y] := by rw [hHA]; exact Vr.mk' hw _ _ _
  have hyA := hy.on hw onA
  obtain ⟨v0, HD, dT, y', rfl, onD, hyD, hyn'⟩ := dropD_T onA.wf hyA hl W R (-1) g
  obtain ⟨n, hn⟩ : ∃ n, n = l.length - (l.filter (keepD (-1) g)).length := ⟨_, rfl⟩
  rw [← hn] at dT ⊢
  have ldS := vA.loadA (m := 3) rfl
  have st1 := new_storeA onD.wf 40 3 [iv 0, iv 0, .slice none 0 0] [iv W, iv R, y'] rfl rfl (by decide)
  have onE : On HD (HD.new 40 3 [iv W, iv R, y']) := (On.refl onD.wf).new _ _ _
  obtain ⟨HE, hHE⟩ : ∃ HE, HE = HD.new 40 3 [iv W, iv R, y'] := ⟨_, rfl⟩
  rw [← hHE] at st1 onE
  refine T_seen hm light33 rfl ?_
  simp [L33, sV, ← hHA, ldS]
  refine goT_of dT ?_
  simp [sV, st1, packV]
  exact ((onA.trans onD).trans onE).keep
theorem many_T {H : Heap} {p W R : Nat} {D : SD} (h : ST H p D) (pl : PL D W R) (g : Int) : T Try.prog 32 [ptr p, iv g] H (iv (manyF (cont D) g W : Nat)) H := by
  obtain ⟨c, es, hmk, hmi, _⟩ := h.mp
  have lk := map_get h.hm hmk hmi g
  rw [pl.mcq] at lk
  obtain ⟨n, hn⟩ : ∃ n, n = manyF (cont D) g W := ⟨_, rfl⟩
  rw [← hn] at lk ⊢
  refine T_eq hm light32 ?_
  simp [L32, h.l3, lk]
end Go.Proofs.Ythclcdboialfnaa
