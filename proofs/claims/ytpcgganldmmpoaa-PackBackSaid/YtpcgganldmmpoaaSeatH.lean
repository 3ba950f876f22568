/-
  The document's opening of seals, and that it answers as the program's.
-/
import Derived.Test.YtpcgganldmmpoaaSeatG
namespace Go.Proofs.Ytpcgganldmmpoaa
open Go.Ot
set_option linter.unusedSimpArgs false
set_option linter.unusedVariables false
def openRB (b : List Nat) : Nat × List Nat :=
  if b.length < 16 then (20, [])
  else if 1048576 < b.length - 16 ∨ b.take 8 ≠ (sealB (b.drop 16)).take 8 then (21, [])
  else if b ≠ sealB (b.drop 16) then (22, [])
  else (0, b.drop 16)
theorem low_lt (k : Nat) : ∀ n, ∀ b ∈ low n k, b < 256 := by
  induction k with
  | zero => intro n b hb; simp [low] at hb
  | succ k ih =>
    intro n b hb
    simp only [low, List.mem_cons] at hb
    rcases hb with rfl | hb
    · exact Nat.mod_lt _ (by decide)
    · exact ih _ b hb
theorem sealB_lt {l : List Nat} (h : ∀ b ∈ l, b < 256) : ∀ b ∈ sealB l, b < 256 := by
  intro b hb
  simp only [sealB, List.mem_append] at hb
  rcases hb with ((hb | hb) | hb) | hb
  · simp [mk4] at hb; omega
  · exact low_lt _ _ b hb
  · exact low_lt _ _ b hb
  · exact h b hb
theorem sealB_len (l : List Nat) : (sealB l).length = 16 + l.length := by simp [sealB, mk4, low_len]; omega
theorem openR_T {H : Heap} (hw : H.WF) {x : Value} {l : List Nat} (h : Bs H x l) (hb : ∀ b ∈ l, b < 256) (hl : l.length ≤ 140737488355328) :
    ∃ v H', T Try.prog 17 [x] H v H' ∧ ∃ y, v = .tuple #[y, .int .i64 ((openRB l).1 : Int)] ∧ OG H H' (.slice none 0 0) (openRB l).2 y := by
  refine T_by hm light17 ?_
  obtain ⟨xa, xc, hxl⟩ := h.len
  by_cases h16 : l.length < 16
  · have e : (l.length : Int) < 16 := by omega
    have ho : openRB l = (20, []) := by simp [openRB, h16]
    rw [ho, hxl]
    simp [L17, e]
    exact OG.same0 hw
  have e : ¬ (l.length : Int) < 16 := by omega
  obtain ⟨-, -, ⟨a7, c7, s7, b7⟩⟩ := h.part 16 16 (by omega) (by omega) (by omega)
  have s7' : sSlice 1 x (some (.int .i64 16)) none none = some (.slice (some a7) (l.length - 16) c7) := s7
  rw [hxl] at s7'
  have hbd : ∀ b ∈ l.drop 16, b < 256 := fun b hb' => hb b (List.mem_of_mem_drop hb')
  have hdl : (l.drop 16).length = l.length - 16 := by simp
  by_cases hbig : 1048576 < l.length - 16
  · have ho : openRB l = (21, []) := by simp [openRB, h16, hbig]
    have T1 := sealR_big b7 (by omega)
    rw [ho, hxl]
    simp [L17, e, s7']
    refine goT_of T1 ?_
    simp
    exact OG.same0 hw
  obtain ⟨v1, H1, T1, w, rfl, aw⟩ := sealR_T hw b7 hbd (by omega)
  have h1 := h.keep hw aw.base (OG.olds aw)
  have bw := own_bs aw.own
  have swl := sealB_len (l.drop 16)
  obtain ⟨wa, hwa⟩ := aw.own.len
  obtain ⟨-, ⟨a8, c8, s8, b8⟩, -⟩ := h1.part 8 8 (by omega) (by omega) (by omega)
  obtain ⟨-, ⟨a9, c9, s9, b9⟩, -⟩ := bw.part 8 8 (by omega) (by omega) (by omega)
  have s8' : sSlice 1 x none (some (.int .i64 8)) none = some (.slice (some a8) 8 c8) := s8
  have s9' : sSlice 1 w none (some (.int .i64 8)) none = some (.slice (some a9) 8 c9) := s9
  have t8 := toStr_bs b8
  have t9 := toStr_bs b9
  have tl := toStr_bs h1
  have tw := toStr_bs bw
  have hbw := sealB_lt hbd
  have n1 := neq_str (a := l.take 8) (b := (sealB (l.drop 16)).take 8) (fun b hb' => hb b (List.mem_of_mem_take hb')) (fun b hb' => hbw b (List.mem_of_mem_take hb'))
  have n2 := neq_str (a := l) (b := sealB (l.drop 16)) hb hbw
  rw [hxl] at s8' tl
  by_cases hq : l.take 8 = (sealB (l.drop 16)).take 8
  · by_cases hq2 : l = sealB (l.drop 16)
    · have ho : openRB l = (0, l.drop 16) := by unfold openRB; rw [if_neg h16, if_neg (not_or.2 ⟨hbig, fun h => h hq⟩), if_neg (fun h => h hq2)]
      obtain ⟨H2, hH2⟩ : ∃ H2, H2 = H1.new 5 1 [] := ⟨_, rfl⟩
      have w2 : H2.WF := by rw [hH2]; exact WF_new aw.wf _ _ _
      have n2' : H2.next = H1.next + 1 := by rw [hH2]; rfl
      have k2 : ∀ b, b < H1.next → H2.blk b = H1.blk b := fun b hb => by rw [hH2]; simp [show b ≠ H1.next by omega]
      have o2 : Own H2 5 1 ([] : List Nat).length (bc []) (sl H1.next 0) := Own.mk (by simp [bc]) (by rw [hH2]; exact aw.wf.next_ge) (by rw [hH2]; simp [bc])
      have b72 := (b7.keep hw aw.base (OG.olds aw)).keep aw.wf (H' := H2) (by rw [hH2]; rfl) k2
      obtain ⟨y, HA, hap, aA⟩ := OG.pour w2 o2 b72.src (by simp; omega)
      have eB : H2.base = H1.base := by rw [hH2]; rfl
      rw [ho, hxl]
      simp only [List.length_nil, Nat.zero_add, List.nil_append, hdl] at hap aA
      rw [hH2] at hap
      simp only [← hq2, ne_eq, not_true_eq_false, decide_false] at n1 n2 tw t9
      simp [L17, e, s7']
      refine goT_of T1 ?_
      simp [s8', s9', t8, t9, n1, tl, tw, n2, hap, s7']
      refine ⟨aA.base.trans (eB.trans aw.base), ?_, aA.wf, ?_, ?_, ?_⟩
      · have := aA.next; have := aw.next; omega
      · exact aA.own
      · intro b hlt _
        have := aw.next
        exact (aA.same b (by omega) (by simp; omega)).trans ((k2 b (by omega)).trans (aw.olds b hlt))
      · intro b hb
        have := aw.next
        rcases aA.old b hb with h | h
        · simp at h; omega
        · exact .inr (by omega)
    · have ho : openRB l = (22, []) := by unfold openRB; rw [if_neg h16, if_neg (not_or.2 ⟨hbig, fun h => h hq⟩), if_pos hq2]
      rw [ho, hxl]
      simp only [hq2, ne_eq, not_false_eq_true, decide_true] at n2
      simp only [hq, ne_eq, not_true_eq_false, decide_false] at n1
      rw [hq] at t8
      simp [L17, e, s7']
      refine goT_of T1 ?_
      simp [s8', s9', t8, t9, n1, tl, tw, n2]
      exact OG.grown aw.base aw.next aw.wf (OG.olds aw)
  · have ho : openRB l = (21, []) := by unfold openRB; rw [if_neg h16, if_pos (.inr hq)]
    rw [ho, hxl]
    simp only [hq, ne_eq, not_false_eq_true, decide_true] at n1
    simp [L17, e, s7']
    refine goT_of T1 ?_
    simp [s8', s9', t8, t9, n1]
    exact OG.grown aw.base aw.next aw.wf (OG.olds aw)
end Go.Proofs.Ytpcgganldmmpoaa
