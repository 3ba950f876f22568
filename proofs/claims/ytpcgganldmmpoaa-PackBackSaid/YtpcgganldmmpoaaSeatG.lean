/-
  The opening of seals: what both functions answer.
-/
import Derived.Test.YtpcgganldmmpoaaSeatF
namespace Go.Proofs.Ytpcgganldmmpoaa
open Go.Ot
set_option linter.unusedSimpArgs false
set_option linter.unusedVariables false
theorem Bs.loadN {H : Heap} {a : Addr} {n c : Nat} {l : List Nat} (h : Bs H (.slice (some a) n c) l) : H.loadN a 0 l.length = some (bc l) := by
  rcases h with ⟨h, _⟩ | ⟨b, off, c', h1, h2⟩
  · cases h
  · cases h1
    exact loadN_all (fun j hj => by simpa using h2 j hj)
theorem OG.same0 {H : Heap} (hw : H.WF) : OG H H (.slice none 0 0) [] (.slice none 0 0) := Og.refl hw (nil_own H)
theorem OG.grown {H H1 : Heap} (hb : H1.base = H.base) (hn : H.next ≤ H1.next) (hw : H1.WF) (hk : ∀ b, b < H.next → H1.blk b = H.blk b) : OG H H1 (.slice none 0 0) [] (.slice none 0 0) :=
  ⟨hb, hn, hw, nil_own H1, fun b hlt _ => hk b hlt, by simp⟩
theorem open_T {H : Heap} (hw : H.WF) {x : Value} {l : List Nat} (h : Bs H x l) (hb : ∀ b ∈ l, b < 256) (hl : l.length ≤ 140737488355328) :
    ∃ v H', T Try.prog 16 [x] H v H' ∧ ∃ y, v = .tuple #[y, .int .i64 ((openB l).1 : Int)] ∧ OG H H' (.slice none 0 0) (openB l).2 y := by
  refine T_by hm light16 ?_
  obtain ⟨xa, xc, hxl⟩ := h.len
  by_cases h16 : l.length < 16
  · have e : (l.length : Int) < 16 := by omega
    have ho : openB l = (20, []) := by simp [openB, h16]
    rw [ho, hxl]
    simp [L16, e]
    exact OG.same0 hw
  have e : ¬ (l.length : Int) < 16 := by omega
  obtain ⟨v1, H1, T1, rfl, S1⟩ := mark_T hw
  have w1 := T1.grow.wf hw
  have k1 := same_all S1
  obtain ⟨-, ⟨a4, c4, s4, b4⟩, -⟩ := h.part 4 4 (by omega) (by omega) (by omega)
  have b4' := b4.keep hw T1.1 k1
  have l4 : (l.take 4).length = 4 := by simp; omega
  have ld4 := b4.loadN
  have ld4' := b4'.loadN
  rw [l4] at ld4 ld4'
  have hs4 : sArr 4 (.slice (some a4) 4 c4) = some (.pointer (some a4)) := by simp [sArr]
  have hpl : ∀ m : List Nat, (bc m).toArray.toList.all plain1 = true := by
    intro m; simp [bc, plain1, plain0]
  have s4' : sSlice 1 x none (some (.int .i64 4)) none = some (.slice (some a4) 4 c4) := s4
  rw [hxl] at s4'
  by_cases h4 : l.take 4 = mk4
  · have h1 := h.keep hw T1.1 k1
    obtain ⟨⟨a8, c8, s8, b8⟩, -, -⟩ := h1.part 4 8 (by omega) (by omega) (by omega)
    obtain ⟨⟨a9, c9, s9, b9⟩, -, -⟩ := h1.part 8 16 (by omega) (by omega) (by omega)
    obtain ⟨-, -, ⟨a7, c7, s7, b7⟩⟩ := h1.part 16 16 (by omega) (by omega) (by omega)
    have T2 := got_T b8 (fun b hb' => hb b (List.mem_of_mem_take (List.mem_of_mem_drop hb'))) (by simp; omega)
    obtain ⟨q1, hq1⟩ : ∃ q1, q1 = leN ((l.take 8).drop 4) := ⟨_, rfl⟩
    rw [← hq1] at T2
    have s8' : sSlice 1 x (some (.int .i64 4)) (some (.int .i64 8)) none = some (.slice (some a8) 4 c8) := s8
    have s9' : sSlice 1 x (some (.int .i64 8)) (some (.int .i64 16)) none = some (.slice (some a9) 8 c9) := s9
    have s7' : sSlice 1 x (some (.int .i64 16)) none none = some (.slice (some a7) (l.length - 16) c7) := s7
    rw [hxl] at s8' s9' s7'
    have e20 : IntKind.i64.wrap ((l.length : Int) - 16) = ((l.length - 16 : Nat) : Int) := by rw [w64 _ (by omega)]; omega
    obtain ⟨m, hm'⟩ : ∃ m, m = l.length - 16 := ⟨_, rfl⟩
    rw [← hm'] at e20 s7' b7
    have e21 : IntKind.u64.wrap (m : Int) = (m : Int) := wu64 _ (by omega)
    by_cases hq : q1 = m
    · have hqi : (q1 : Int) = (m : Int) := by omega
      by_cases hbig : 1048576 < m
      · have hbig' : (1048576 : Int) < (m : Int) := by omega
        have ho : openB l = (21, []) := by simp [openB, h16, ← hm', hbig]
        rw [ho, hxl]
        simp [L16, e, s4', hs4, ld4]
        refine goT_of T1 ?_
        simp [ld4']
        refine goE_of (hpl _) (hpl _) (eq4 _ l4) ?_
        simp [h4, s8']
        refine goT_of T2 ?_
        simp [e20, e21, hq, hbig']
        exact OG.grown T1.1 T1.grow.next w1 k1
      · have hbig' : ¬ (1048576 : Int) < (m : Int) := by omega
        obtain ⟨y, HA, hap, aA⟩ := OG.pour w1 (nil_own H1) b7.src (by simp; omega)
        have hdl : (l.drop 16).length = m := by simp; omega
        simp only [List.length_nil, Nat.zero_add, List.nil_append, hdl] at hap aA
        have b9A := b9.keep w1 aA.base aA.olds
        have T3 := got_T b9A (fun b hb' => hb b (List.mem_of_mem_take (List.mem_of_mem_drop hb'))) (by simp; omega)
        have T4 := sum_T (own_bs aA.own) (fun b hb' => hb b (List.mem_of_mem_drop hb')) (by omega)
        have aH : OG H HA (.slice none 0 0) (l.drop 16) (.slice y m 0) :=
          ⟨aA.base.trans T1.1, Nat.le_trans T1.grow.next aA.next, aA.wf, aA.own, fun b hlt _ => (aA.olds b (Nat.lt_of_lt_of_le hlt T1.grow.next)).trans (k1 b hlt), fun b hb => by
            rcases aA.old b hb with h | h
            · exact .inl h
            · exact .inr (Nat.le_trans T1.grow.next h)⟩
        obtain ⟨q2, hq2⟩ : ∃ q2, q2 = leN ((l.take 16).drop 8) := ⟨_, rfl⟩
        obtain ⟨q3, hq3⟩ : ∃ q3, q3 = fnv (l.drop 16) := ⟨_, rfl⟩
        rw [← hq2] at T3
        rw [← hq3] at T4
        by_cases hs : q2 = q3
        · have ho : openB l = (0, l.drop 16) := by simp [openB, h16, h4, ← hm', ← hq1, hq, hbig, ← hq2, ← hq3, hs]
          rw [ho, hxl]
          simp [L16, e, s4', hs4, ld4]
          refine goT_of T1 ?_
          simp [ld4']
          refine goE_of (hpl _) (hpl _) (eq4 _ l4) ?_
          simp [h4, s8']
          refine goT_of T2 ?_
          simp [e20, e21, hq, hbig', s7', s9', hap]
          refine goT_of T3 ?_
          simp
          refine goT_of T4 ?_
          simp [hs]
          exact aH
        · have hsi : ((q2 : Int) != (q3 : Int)) = true := bne_iff_ne.2 (by omega)
          have ho : openB l = (22, []) := by simp [openB, h16, h4, ← hm', ← hq1, hq, hbig, ← hq2, ← hq3, hs]
          rw [ho, hxl]
          simp [L16, e, s4', hs4, ld4]
          refine goT_of T1 ?_
          simp [ld4']
          refine goE_of (hpl _) (hpl _) (eq4 _ l4) ?_
          simp [h4, s8']
          refine goT_of T2 ?_
          simp [e20, e21, hq, hbig', s7', s9', hap]
          refine goT_of T3 ?_
          simp
          refine goT_of T4 ?_
          simp [hsi]
          exact OG.grown aH.base aH.next aH.wf aH.olds
    · have hqi : ¬ (q1 : Int) = (m : Int) := by omega
      have ho : openB l = (21, []) := by simp [openB, h16, ← hm', ← hq1, hq]
      rw [ho, hxl]
      simp [L16, e, s4', hs4, ld4]
      refine goT_of T1 ?_
      simp [ld4']
      refine goE_of (hpl _) (hpl _) (eq4 _ l4) ?_
      simp [h4, s8']
      refine goT_of T2 ?_
      have hne : ((q1 : Int) != (m : Int)) = true := bne_iff_ne.2 hqi
      simp [e20, e21, hne]
      exact OG.grown T1.1 T1.grow.next w1 k1
  · have ho : openB l = (21, []) := by simp [openB, h16, h4]
    rw [ho, hxl]
    simp [L16, e, s4', hs4, ld4]
    refine goT_of T1 ?_
    simp [ld4']
    refine goE_of (hpl _) (hpl _) (eq4 _ l4) ?_
    simp [h4]
    exact OG.grown T1.1 T1.grow.next w1 k1
end Go.Proofs.Ytpcgganldmmpoaa
