/-
  Chapter 23: a heap of at most one age; Fall along a chain.
-/
import Derived.Test.YtadegahkgpedgaaSeatE
namespace Go.Proofs.Ytadegahkgpedgaa
open Go.Ot Go.RowKit
set_option linter.unusedSimpArgs false
set_option linter.unusedVariables false
abbrev agesI (q : Nat) : Value := .iface 60 (ptr q)
theorem mLen : methodOf Try.prog 60 "Len" = some (24, .load false 1) := by kernel_rfl
theorem mSwap : methodOf Try.prog 60 "Swap" = some (56, .load false 1) := by kernel_rfl
theorem mLess : methodOf Try.prog 60 "Less" = some (53, .load false 1) := by kernel_rfl
theorem mPush : methodOf Try.prog 60 "Push" = some (55, .same) := by kernel_rfl
theorem mPop : methodOf Try.prog 60 "Pop" = some (54, .same) := by kernel_rfl
/-- A heap's list at a place. -/
structure HR (H : Heap) (q : Nat) (A : List Int) (y : Value) : Prop where
  hq : ¬ q < H.B
  bq : H.blk q = some ⟨61, 1, [y]⟩
  own : Own H 3 1 A.length (A.map iv) y
  qy : blkOf y ≠ some q
theorem HR.ld {H : Heap} {q : Nat} {A : List Int} {y : Value} (h : HR H q A y) : H.load ⟨q, 0, none⟩ = some y := by rw [load_at h.hq h.bq]; rfl
theorem alen_T {H : Heap} {q : Nat} {A : List Int} {y : Value} (h : HR H q A y) : T Try.prog 24 [y] H (iv A.length) H := by
  refine T_eq hm light24 ?_
  obtain ⟨a, hy⟩ := h.own.len
  rw [hy]
  simp [L24]
theorem ilen_T {H : Heap} {q : Nat} {A : List Int} {y : Value} (h : HR H q A y) : TI Try.prog (agesI q) "Len" [] H (iv A.length) H :=
  ⟨60, ptr q, 24, .load false 1, y, rfl, mLen, h.ld, ⟨Try.f24, Try.func24, rfl, by kernel_rfl⟩, alen_T h⟩
theorem Aft.refl {H : Heap} (hw : H.WF) (q : Nat) (y : Value) : Aft H H q y y := ⟨hw, rfl, Nat.le_refl _, fun _ _ _ _ => rfl, fun _ h => .inl h⟩
theorem Aft.trans {H H1 H2 : Heap} {q : Nat} {y y1 y2 : Value} (h : Aft H H1 q y y1) (h2 : Aft H1 H2 q y1 y2) : Aft H H2 q y y2 where
  wf := h2.wf
  base := h2.base.trans h.base
  next := Nat.le_trans h.next h2.next
  keep := fun b hb hq hy => by
    have := h.next
    rw [h2.keep b (by omega) hq (fun h1 => by
      rcases h.new b h1 with h3 | h3
      · exact hy h3
      · omega), h.keep b hb hq hy]
  new := fun b hb => by
    have := h.next
    rcases h2.new b hb with h1 | h1
    · exact h.new b h1
    · right; omega
theorem swap0_T {H : Heap} {q : Nat} {v : Int} {y : Value} (h : HR H q [v] y) : ∃ u, TI Try.prog (agesI q) "Swap" [iv 0, iv 0] H u H := by
  obtain ⟨u, H', hT, hH⟩ : ∃ u H', T Try.prog 56 [y, iv 0, iv 0] H u H' ∧ H' = H := by
    refine T_by hm light56 ?_
    rcases h.own.2 with ⟨_, h0⟩ | ⟨b, rest, rfl, hB, hk⟩
    · cases h0
    · have ld : H.load ⟨b, 0, none⟩ = some (iv v) := by rw [load_at hB hk]; rfl
      have st : H.store ⟨b, 0, none⟩ (iv v) = some H := by
        rw [store_own hB hk, if_pos (by simp)]
        have := put_self hk
        simpa using this
      simp [L56, ld, st]
  subst hH
  exact ⟨u, 60, ptr q, 56, .load false 1, y, rfl, mSwap, h.ld, ⟨Try.f56, Try.func56, rfl, by kernel_rfl⟩, hT⟩
theorem ipop_T {H : Heap} (hw : H.WF) {q : Nat} {A : List Int} {v : Int} {y : Value} (h : HR H q (A ++ [v]) y) (hl : A.length < 100000) : ∃ H' y', TI Try.prog (agesI q) "Pop" [] H (.iface 3 (iv v)) H' ∧ HR H' q A y' ∧ Aft H H' q y y' := by
  have : ∃ u H', T Try.prog 54 [ptr q] H u H' ∧ u = .iface 3 (iv v) ∧ ∃ y', HR H' q A y' ∧ Aft H H' q y y' := by
    refine T_by hm light54 ?_
    have ldq := h.ld
    rcases h.own.2 with ⟨_, h0⟩ | ⟨b, rest, rfl, hB, hk⟩
    · simp at h0
    · obtain ⟨n, hn⟩ : ∃ n, n = A.length := ⟨_, rfl⟩
      have hlen : (A ++ [v]).length = n + 1 := by simp [hn]
      rw [hlen] at ldq
      have ld : H.load ⟨b, n, none⟩ = some (iv v) := by
        rw [load_at hB hk]
        simp [hn]
      have c1 : IntKind.i64.wrap (((n + 1 : Nat) : Int) - 1) = (n : Int) := by rw [w64 _ (by omega)]; omega
      obtain ⟨n1, hn1⟩ : ∃ n1, n1 = n + 1 := ⟨_, rfl⟩
      rw [← hn1] at c1 ldq
      have hidx : sIdx 1 (.slice (some ⟨b, 0, none⟩) n1 0) (iv n) = some (.pointer (some ⟨b, n, none⟩)) := by
        have : n < n1 := by omega
        simp [sIdx, add_own, this]
      have hsl : sSlice 1 (.slice (some ⟨b, 0, none⟩) n1 0) none (some (iv n)) none = some (.slice (some ⟨b, 0, none⟩) n 0) := by
        have : n ≤ n1 := by omega
        simp [sSlice, bnd, add_own, this]
      obtain ⟨HZ, hHZ⟩ : ∃ HZ, HZ = H.put q [.slice (some ⟨b, 0, none⟩) n 0] := ⟨_, rfl⟩
      have st : H.store ⟨q, 0, none⟩ (.slice (some ⟨b, 0, none⟩) n 0) = some HZ := by
        rw [store_own h.hq h.bq, if_pos (by simp), hHZ]
        rfl
      have hbq : b ≠ q := fun e => h.qy (by simp [e])
      simp [L54, ldq, c1, hidx, ld, hsl, st]
      refine ⟨rfl, rfl, .slice (some ⟨b, 0, none⟩) n 0, ⟨?_, ?_, ?_, by simpa using hbq⟩, ⟨?_, ?_, ?_, ?_, ?_⟩⟩
      · rw [hHZ]; exact h.hq
      · rw [hHZ]; simp [h.bq]
      · refine ⟨by simp, .inr ⟨b, iv v :: rest, by rw [hn], by rw [hHZ]; exact hB, by rw [hHZ]; simp [hbq, hk]⟩⟩
      · rw [hHZ]; exact WF_put hw _ _
      · rw [hHZ]; rfl
      · rw [hHZ]; exact Nat.le_refl _
      · intro c hc hcq _
        rw [hHZ]; simp [hcq]
      · intro c hc
        exact .inl (by simpa using hc)
  obtain ⟨u, H', hT, rfl, y', h1, h2⟩ := this
  exact ⟨H', y', ⟨60, ptr q, 54, .same, ptr q, rfl, mPop, rfl, ⟨Try.f54, Try.func54, rfl, by kernel_rfl⟩, hT⟩, h1, h2⟩
theorem ipush_T {H : Heap} (hw : H.WF) {q : Nat} {A : List Int} {v : Int} {y : Value} (h : HR H q A y) (hl : A.length < 100000) : ∃ u H' y', TI Try.prog (agesI q) "Push" [.iface 3 (iv v)] H u H' ∧ HR H' q (A ++ [v]) y' ∧ Aft H H' q y y' := by
  have : ∃ u H', T Try.prog 55 [ptr q, .iface 3 (iv v)] H u H' ∧ ∃ y', HR H' q (A ++ [v]) y' ∧ Aft H H' q y y' := by
    refine T_by hm light55 ?_
    have ldq := h.ld
    have hn1 := hw.next_ge
    obtain ⟨HS, hHS⟩ : ∃ HS, HS = H.new 3 1 [iv v] := ⟨_, rfl⟩
    have hwS : HS.WF := by rw [hHS]; exact WF_new hw _ _ _
    have ownS : Own HS 3 1 A.length (A.map iv) y := by rw [hHS]; exact h.own.new hw _ _ _
    have src : srcCells HS 1 (.slice (some ⟨H.next, 0, none⟩) 1 0) = some (1, [iv v]) := by
      rw [hHS, src_at (ety := 3) (cs := [iv v]) (by simpa using hn1) (by simp) (by simp)]
      simp
    have ap := append_any (bytes := 8) ownS src (by decide) (by omega)
    obtain ⟨HA, hHA⟩ : ∃ HA, HA = (HS.drop y).new 3 1 (A.map iv ++ [iv v]) := ⟨_, rfl⟩
    rw [← hHA] at ap
    have nS : HS.next = H.next + 1 := by rw [hHS]; simp
    rw [nS] at ap
    obtain ⟨n1, hn1'⟩ : ∃ n1, n1 = A.length + 1 := ⟨_, rfl⟩
    rw [← hn1'] at ap
    have hqn : q < H.next := hw.lt h.bq
    have bqA : HA.blk q = some ⟨61, 1, [y]⟩ := by
      rw [hHA, hHS]
      have m1 : q ≠ H.next + 1 := by omega
      have m2 : q ≠ H.next := by omega
      simp [m1, m2, blk_drop, h.qy, h.bq]
    have bA : HA.base = H.base := by rw [hHA, hHS]; simp
    obtain ⟨HZ, hHZ⟩ : ∃ HZ, HZ = HA.put q [.slice (some ⟨H.next + 1, 0, none⟩) n1 0] := ⟨_, rfl⟩
    have st : HA.store ⟨q, 0, none⟩ (.slice (some ⟨H.next + 1, 0, none⟩) n1 0) = some HZ := by
      rw [store_own (by rw [B_eq bA]; exact h.hq) bqA, if_pos (by simp), hHZ]
      rfl
    have hz : zerosA [iv 0] 1 = [iv 0] := rfl
    have bZ : HZ.base = H.base := by rw [hHZ]; simp [bA]
    have nqb : H.next + 1 ≠ q := by omega
    have ldS : HS.load ⟨q, 0, none⟩ = some y := by rw [hHS]; exact load_newN hw ldq _ _ _
    simp [L55, ldq, hz, ← hHS, ap, st, ldS]
    refine ⟨.slice (some ⟨H.next + 1, 0, none⟩) n1 0, ⟨?_, ?_, ?_, by simpa using nqb⟩, ⟨?_, bZ, ?_, ?_, ?_⟩⟩
    · rw [B_eq bZ]; exact h.hq
    · rw [hHZ]; simp [bqA]
    · have : (A ++ [v]).length = n1 := by simp [hn1']
      rw [this]
      have e2 : (A ++ [v]).map iv = A.map iv ++ [iv v] := by simp
      rw [e2]
      exact Own.mk (by simp [hn1']) (by rw [B_eq bZ]; omega) (by rw [hHZ, hHA]; simp [nqb, nS])
    · rw [hHZ, hHA]; exact WF_put (WF_new (WF_drop hwS _) _ _ _) _ _
    · rw [hHZ, hHA]; simp [nS]; omega
    · intro c hc hcq hcy
      rw [hHZ, hHA, hHS]
      have m1 : c ≠ H.next + 1 := by omega
      have m2 : c ≠ H.next := by omega
      simp [hcq, m1, m2, blk_drop, hcy]
    · intro c hc
      simp at hc
      right; omega
  obtain ⟨u, H', hT, y', h1, h2⟩ := this
  exact ⟨u, H', y', ⟨60, ptr q, 55, .same, ptr q, rfl, mPush, rfl, ⟨Try.f55, Try.func55, rfl, by kernel_rfl⟩, hT⟩, h1, h2⟩
theorem down0_T {H : Heap} {q : Nat} : ∃ u, T Try.prog 34 [agesI q, iv 0, iv 0] H u H := by
  obtain ⟨u, H', hT, rfl⟩ : ∃ u H', T Try.prog 34 [agesI q, iv 0, iv 0] H u H' ∧ H' = H := by
    refine T_by hm light34 ?_
    have c1 : IntKind.i64.wrap (0 + 1) = 1 := rfl
    have c0 : IntKind.i64.wrap (2 * 0) = 0 := rfl
    simp [L34]
    refine loop_at (fun _ t H1 => t 1 = iv 0 ∧ t 2 = iv 0 ∧ t 7 = iv 0 ∧ H1 = H) 0 ?_ ?_
    · exact ⟨by simp, by simp, by simp, rfl⟩
    · rintro k t H1 ⟨t1, t2, t7, rfl⟩
      simp [L34_1, t1, t2, t7, c0, c1]
  exact ⟨u, hT⟩
theorem up0_T {H : Heap} {q : Nat} : ∃ u, T Try.prog 35 [agesI q, iv 0] H u H := by
  obtain ⟨u, H', hT, rfl⟩ : ∃ u H', T Try.prog 35 [agesI q, iv 0] H u H' ∧ H' = H := by
    refine T_by hm light35 ?_
    have c1 : IntKind.i64.wrap (-1) = -1 := rfl
    have c2 : sBin .quo (iv (-1)) (iv 2) = some (iv 0) := rfl
    simp [L35]
    refine loop_at (fun _ t H1 => t 1 = iv 0 ∧ H1 = H) 0 ?_ ?_
    · exact ⟨by simp, rfl⟩
    · rintro k t H1 ⟨t1, rfl⟩
      simp [L35_1, t1, c1, c2]
  exact ⟨u, hT⟩
theorem pop_T {H : Heap} (hw : H.WF) {q : Nat} {v : Int} {y : Value} (h : HR H q [v] y) : ∃ H' y', T Try.prog 25 [agesI q] H (.iface 3 (iv v)) H' ∧ HR H' q [] y' ∧ Aft H H' q y y' := by
  have : ∃ u H', T Try.prog 25 [agesI q] H u H' ∧ u = .iface 3 (iv v) ∧ ∃ y', HR H' q [] y' ∧ Aft H H' q y y' := by
    refine T_by hm light25 ?_
    obtain ⟨u1, hs⟩ := swap0_T h
    obtain ⟨u2, hd⟩ := down0_T (H := H) (q := q)
    obtain ⟨H', y', hp, h1, h2⟩ := ipop_T (A := []) hw h (by simp)
    have c1 : IntKind.i64.wrap (1 - 1) = 0 := rfl
    have hl : TI Try.prog (agesI q) "Len" [] H (iv 1) H := ilen_T h
    simp [L25]
    refine goTI_of hl ?_
    simp [c1]
    refine goTI_of hs ?_
    simp
    refine goT_of hd ?_
    simp
    refine goTI_of hp ?_
    simp
    exact ⟨rfl, y', h1, h2⟩
  obtain ⟨u, H', hT, rfl, y', h1, h2⟩ := this
  exact ⟨H', y', hT, h1, h2⟩
theorem push_T {H : Heap} (hw : H.WF) {q : Nat} {v : Int} {y : Value} (h : HR H q [] y) : ∃ u H' y', T Try.prog 26 [agesI q, .iface 3 (iv v)] H u H' ∧ HR H' q [v] y' ∧ Aft H H' q y y' := by
  have : ∃ u H', T Try.prog 26 [agesI q, .iface 3 (iv v)] H u H' ∧ ∃ y', HR H' q [v] y' ∧ Aft H H' q y y' := by
    refine T_by hm light26 ?_
    obtain ⟨u1, H', y', hp, h1, h2⟩ := ipush_T (v := v) hw h (by simp)
    obtain ⟨u2, hu⟩ := up0_T (H := H') (q := q)
    have c1 : IntKind.i64.wrap (1 - 1) = 0 := rfl
    have hl : TI Try.prog (agesI q) "Len" [] H' (iv 1) H' := ilen_T h1
    simp [L26]
    refine goTI_of hp ?_
    simp
    refine goTI_of hl ?_
    simp [c1]
    refine goT_of hu ?_
    simp
    exact ⟨y', h1, h2⟩
  obtain ⟨u, H', hT, y', h1, h2⟩ := this
  exact ⟨u, H', y', hT, h1, h2⟩
end Go.Proofs.Ytadegahkgpedgaa
