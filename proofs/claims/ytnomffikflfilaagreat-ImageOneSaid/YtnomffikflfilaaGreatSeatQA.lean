/-
  Chapter 26: which jobs and configs may be, by the document (carried over from chapter 25). Chapter 26: instructions encoded, bytes sealed, by the document (carried over from chapters 8 and 2). Chapter 26: the document's opening of seals (carried over from chapter 2).
-/
import Derived.Test.YtnomffikflfilaaGreatSeatI
import Derived.Test.YtnomffikflfilaaGreatSeatLC
namespace Go.Proofs.YtnomffikflfilaaGreat
open Go.Ot Go.RowKit
end Go.Proofs.YtnomffikflfilaaGreat
namespace Go.Proofs.YtnomffikflfilaaGreat
open Go.Ot Go.RowKit
set_option linter.unusedSimpArgs false
set_option linter.unusedVariables false
end Go.Proofs.YtnomffikflfilaaGreat
namespace Go.Proofs.YtnomffikflfilaaGreat.R14
open Go.Ot
set_option linter.unusedSimpArgs false
set_option linter.unusedVariables false
theorem rightR_T {H : Heap} (op : Int) : T Tryz.prog 122 [iv op] H (.bool (right op)) H := by
  refine T_eq hm light122 ?_
  by_cases h1 : 1 ≤ op <;> by_cases h2 : op ≤ 7 <;> simp [L122, right, h1, h2]
def InvCk (H : Heap) (x : Value) (l : List (Int × Int)) (k : Nat) (t : Tm) (H1 : Heap) : Prop :=
  ∃ i : Nat, i + k = l.length ∧ t 0 = x ∧ t 3 = iv i ∧ (∀ j (h : j < l.length), j < i → right l[j].1 = true) ∧ H1 = H
theorem check_T {H : Heap} {x : Value} {l : List (Int × Int)} (hx : Twos H x l) (hl : l.length ≤ 2000000) : T Tryz.prog 89 [x] H (iv (chkC l)) H := by
  obtain ⟨a, c, hxl⟩ := hx.len
  by_cases h4 : 4 < l.length
  · rw [show chkC l = 171 by simp [chkC, h4]]
    refine T_eq hm light89 ?_
    rw [hxl]
    simp [L89, h4]
  · refine T_eq hm light89 ?_
    rw [hxl]
    simp [L89, h4]
    rw [← hxl]
    refine loop_at (InvCk H x l) l.length ?_ ?_
    · exact ⟨0, by omega, by simp [hxl], by simp, fun j _ h => absurd h (by omega), rfl⟩
    · rintro k t H1 ⟨i, hik, t0, t3, hall, rfl⟩
      cases k with
      | zero =>
        have e1 : ¬ ((i : Int) < l.length) := by omega
        have ha : l.all (fun r => right r.1) = true := by
          rw [List.all_eq_true]
          intro r hr
          obtain ⟨j, hj, rfl⟩ := List.mem_iff_getElem.1 hr
          exact hall j hj (by omega)
        have e2 : chkC l = 0 := by simp only [chkC, h4, if_false, ha, if_true]
        rw [hxl] at t0
        rw [e2]
        simp [L89_1, t3, t0, e1]
      | succ k =>
        have hil : i < l.length := by omega
        have e1 : ((i : Int) < l.length) := by omega
        have e4 : IntKind.i64.wrap ((i : Int) + 1) = ((i + 1 : Nat) : Int) := by rw [w64 _ (by omega)]; omega
        obtain ⟨iN, hiN⟩ : ∃ n : Nat, n = i + 1 := ⟨_, rfl⟩
        rw [← hiN] at e4
        obtain ⟨b, off, c2, hxb, l0, _⟩ := hx.at hil
        have t0' := t0
        rw [hxb] at t0
        have hT := rightR_T (H := H1) l[i].1
        obtain ⟨rb, hrb⟩ : ∃ rb, rb = right l[i].1 := ⟨_, rfl⟩
        rw [← hrb] at hT
        cases rb with
        | true =>
          simp [L89_1, t3, t0, e1, hil, l0]
          refine goT_of hT ?_
          simp [t3, e4]
          refine ⟨k, by omega, iN, by omega, by simp [t0'], by simp, fun j hj hji => ?_, rfl⟩
          by_cases e : j = i
          · subst e; exact hrb.symm
          · exact hall j hj (by omega)
        | false =>
          have hna : ¬ l.all (fun r => right r.1) = true := by
            intro h
            have := List.all_eq_true.1 h l[i] (List.getElem_mem hil)
            rw [← hrb] at this
            cases this
          have e2 : chkC l = 140 := by unfold chkC; rw [if_neg h4, if_neg hna]
          rw [e2]
          simp [L89_1, t3, t0, e1, hil, l0]
          refine goT_of hT ?_
          simp
end Go.Proofs.YtnomffikflfilaaGreat.R14
namespace Go.Proofs.YtnomffikflfilaaGreat
open Go.Ot Go.RowKit
open R14 (Twos)
set_option linter.unusedSimpArgs false
set_option linter.unusedVariables false
end Go.Proofs.YtnomffikflfilaaGreat
namespace Go.Proofs.YtnomffikflfilaaGreat
open Go.Ot Go.RowKit
open R14 (Twos)
set_option linter.unusedSimpArgs false
set_option linter.unusedVariables false
end Go.Proofs.YtnomffikflfilaaGreat
namespace Go.Proofs.YtnomffikflfilaaGreat
open Go.Ot Go.RowKit
open R14 (Twos chkC NewQ)
open I8 (In rowI checkV)
set_option linter.unusedSimpArgs false
set_option linter.unusedVariables false
end Go.Proofs.YtnomffikflfilaaGreat
namespace Go.Proofs.YtnomffikflfilaaGreat.E8
open Go.Ot Go.RowKit
set_option linter.unusedSimpArgs false
set_option linter.unusedVariables false
set_option maxRecDepth 100000
end Go.Proofs.YtnomffikflfilaaGreat.E8
namespace Go.Proofs.YtnomffikflfilaaGreat.E8
open Go.Ot
set_option linter.unusedSimpArgs false
set_option linter.unusedVariables false
set_option maxRecDepth 100000
def InvS2 (H : Heap) (x : Value) (l : List Nat) (k : Nat) (t : Tm) (H1 : Heap) : Prop :=
  ∃ i a, i + k = l.length ∧ t 3 = .int .u64 ((a : Nat) : Int) ∧ a < 18446744073709551616 ∧ (l.drop i).foldl fnv1 a = fnv l ∧ t 0 = x ∧ t 4 = .int .i64 (i : Nat) ∧ H1 = H
theorem sumR_T {H : Heap} {x : Value} {l : List Nat} (h : Bs H x l) (hb : ∀ b ∈ l, b < 256) (hl : l.length ≤ 140737488355328) : T Tryz.prog 61 [x] H (.int .u64 ((fnv l : Nat) : Int)) H := by
  refine T_eq hm light61 ?_
  obtain ⟨xa, xc, hxl⟩ := h.len
  simp [L61]
  refine loop_at (InvS2 H x l) l.length ?_ ?_
  · exact ⟨0, 14695981039346656037, by omega, by simp, by decide, by simp [fnv], by simp, by simp, rfl⟩
  · rintro k t H1 ⟨i, a, hik, t3, ha, hf, t0, t4, rfl⟩
    cases k with
    | zero =>
      have e0 : i = l.length := by omega
      subst e0
      rw [hxl] at t0
      simp at hf
      simp [L61_1, t3, t0, t4, hf]
    | succ k =>
      have hi : i < l.length := by omega
      have hi' : (i : Int) < l.length := by omega
      obtain ⟨b, off, c, hx, hld⟩ := h.at hi
      rw [hx] at t0
      have hlt := hb _ (List.getElem_mem hi)
      obtain ⟨s1, s2⟩ := fnv_step a l[i] ha hlt
      have e1 : IntKind.u64.wrap ((l[i] : Nat) : Int) = ((l[i] : Nat) : Int) := wu64 _ (by omega)
      have e2 : IntKind.i64.wrap ((i : Int) + 1) = ((i + 1 : Nat) : Int) := by rw [w64 _ (by omega)]; omega
      simp [L61_1, t3, t0, t4, hi', hld, e1, s1, s2, e2]
      refine ⟨k, Nat.lt_succ_self k, i + 1, fnv1 a l[i], by omega, by simp, fnv1_lt _ _, ?_, by simp [t0, hx], by simp, rfl⟩
      rw [← hf, List.drop_eq_getElem_cons hi]
      rfl
def InvM (H : Heap) (all : List Nat) (kk : Nat) (k : Nat) (t : Tm) (H1 : Heap) : Prop :=
  ∃ (w : List Nat) (m i : Nat) (x' : Value), i + k = kk ∧ t 5 = x' ∧ m < 18446744073709551616 ∧ t 0 = .int .u64 (m : Int) ∧ t 1 = .int .i64 kk ∧ t 6 = .int .i64 (i : Nat) ∧ w ++ low m k = all ∧ w.length ≤ all.length ∧ OG H H1 (.slice none 0 0) w x'
theorem lowR_T {H : Heap} (hw : H.WF) (n k : Nat) (hn : n < 18446744073709551616) (hl : k < 140737488355328) :
    ∃ v H', T Tryz.prog 60 [.int .u64 (n : Int), .int .i64 (k : Int)] H v H' ∧ OG H H' (.slice none 0 0) (low n k) v := by
  refine T_by hm light60 ?_
  have hall : (low n k).length < 140737488355328 := by rw [low_len]; exact hl
  simp [L60]
  refine loop_at (InvM H (low n k) k) k ?_ ?_
  · exact ⟨[], n, 0, _, by omega, by simp, hn, by simp, by simp, by simp, rfl, by simp, Og.refl hw (nil_own H)⟩
  · rintro j t H1 ⟨w, m, i, x', hik, t5, hm64, t0, t1, t6, hall2, hwl, ha⟩
    cases j with
    | zero =>
      have e0 : i = k := by omega
      subst e0
      simp [low] at hall2
      rw [← hall2]
      simp [L60_1, t0, t1, t5, t6]
      obtain ⟨a, ha'⟩ := ha.own.len
      rw [ha'] at ha ⊢
      simp
      exact ha
    | succ j =>
      obtain ⟨HA, hap, ha2⟩ := OG.push ha.wf ha.own (m % 256) (by omega)
      obtain ⟨c, hc⟩ : ∃ c, c = m % 256 := ⟨_, rfl⟩
      obtain ⟨q, hq⟩ : ∃ q, q = m / 256 := ⟨_, rfl⟩
      rw [← hc] at hap ha2
      have e1 : (i : Int) < k := by omega
      have e2 : IntKind.u8.wrap (c : Int) = (c : Int) := wu8 _ (by omega)
      have e5 : sBin .rem (.int .u64 (m : Int)) (.int .u64 256) = some (.int .u64 (c : Int)) := by
        rw [hc]; exact rem_nat .u64 m 256 (by decide)
      have e3 : sBin .quo (.int .u64 (m : Int)) (.int .u64 256) = some (.int .u64 (q : Int)) := by
        rw [hq]; exact quo_u64 m 256 (by decide) hm64
      have e4 : IntKind.i64.wrap ((i : Int) + 1) = ((i + 1 : Nat) : Int) := by rw [w64 _ (by omega)]; omega
      simp [L60_1, t0, t1, t5, t6, e1, e2, e3, e4, e5, zerosA, hap]
      simp only [low, ← hc, ← hq] at hall2
      refine ⟨j, Nat.lt_succ_self j, w ++ [c], q, i + 1, _, by omega, by simp, by omega, by simp, by simp [t1], by simp, by simpa using hall2, ?_, ha.trans ha2⟩
      rw [← hall2]; simp
end Go.Proofs.YtnomffikflfilaaGreat.E8
namespace Go.Proofs.YtnomffikflfilaaGreat.E8
open Go.Ot
set_option linter.unusedSimpArgs false
set_option linter.unusedVariables false
set_option maxRecDepth 100000
theorem sealR_big {H : Heap} {x : Value} {l : List Nat} (h : Bs H x l) (hl : 1048576 < l.length) : T Tryz.prog 18 [x] H (.tuple #[.slice none 0 0, .int .i64 23]) H := by
  refine T_eq hm light18 ?_
  obtain ⟨xa, xc, rfl⟩ := h.len
  have e : (1048576 : Int) < l.length := by omega
  simp [L18, e]
theorem sealR_T {H : Heap} (hw : H.WF) {x : Value} {l : List Nat} (h : Bs H x l) (hb : ∀ b ∈ l, b < 256) (hl : l.length ≤ 1048576) :
    ∃ v H', T Tryz.prog 18 [x] H v H' ∧ ∃ y, v = .tuple #[y, .int .i64 0] ∧ OG H H' (.slice none 0 0) (sealB l) y := by
  refine T_by hm light18 ?_
  obtain ⟨xa, xc, hxl⟩ := h.len
  have e : ¬ (1048576 : Int) < l.length := by omega
  have e1 : IntKind.u64.wrap (l.length : Int) = (l.length : Int) := wu64 _ (by omega)
  have hnB := hw.next_ge
  obtain ⟨HN, hHN⟩ : ∃ HN, HN = H.new 5 1 [.int .u8 111, .int .u8 117, .int .u8 116, .int .u8 114] := ⟨_, rfl⟩
  have a2 : OG H HN (.slice none 0 0) mk4 (sl H.next 4) := by
    rw [hHN]
    refine ⟨rfl, by simp, WF_new hw _ _ _, Own.mk (by simp [bc, mk4]) hnB (by simp [bc, mk4]), ?_, ?_⟩
    · intro b hb _
      have m1 : b ≠ H.next := by omega
      simp [m1]
    · intro b hb; simp at hb; omega
  have hmark : sMark HN (sl H.next 4) = some (sl H.next 4) := by
    have : ¬ H.next < HN.B := by rw [hHN]; exact hnB
    simp [sMark, hHN, hnB]
  have h2 := h.keep hw a2.base a2.olds
  obtain ⟨v3, H3, T3, a3⟩ := lowR_T a2.wf l.length 4 (by omega) (by omega)
  have a3' : OG H H3 (.slice none 0 0) mk4 (sl H.next 4) := a2.beside a3.base a3.next a3.wf a3.olds
  obtain ⟨y4, H4, hap4, a4⟩ := OG.pour a3.wf a3'.own (own_bs a3.own).src (by simp [mk4, low_len])
  have a4' := Og.trans a3' a4
  have h4 := h.keep hw a4'.base (OG.olds a4')
  have T5 := sumR_T h4 hb (by omega)
  obtain ⟨v6, H6, T6, a6⟩ := lowR_T a4'.wf (fnv l) 8 (fnv_lt l) (by omega)
  have a6' : OG H H6 (.slice none 0 0) (mk4 ++ low l.length 4) (.slice y4 (mk4.length + (low l.length 4).length) 0) := OG.beside a4' a6.base a6.next a6.wf a6.olds
  obtain ⟨y7, H7, hap7, a7⟩ := OG.pour a6.wf a6'.own (own_bs a6.own).src (by simp [mk4, low_len])
  have a7' := Og.trans a6' a7
  have h7 := h.keep hw a7'.base (OG.olds a7')
  obtain ⟨y8, H8, hap8, a8⟩ := OG.pour a7'.wf a7'.own h7.src (by simp [mk4, low_len]; omega)
  have a8' := Og.trans a7' a8
  rw [hxl] at T5 hap8
  rw [hxl]
  simp [L18, e, e1, zerosA_one, List.replicate]
  rw [← hHN]
  simp [hmark]
  refine goT_of T3 ?_
  have m4 : mk4.length = 4 := rfl
  have e9 : (mk4 ++ low l.length 4 ++ low (fnv l) 8).length + l.length = 16 + l.length := by simp [mk4, low_len]
  rw [e9] at a8'
  simp only [low_len, List.length_append, m4, Nat.reduceAdd] at hap4 hap7 hap8
  simp [hap4]
  refine goT_of T5 ?_
  simp
  refine goT_of T6 ?_
  simp [hap7, hap8]
  exact a8'
end Go.Proofs.YtnomffikflfilaaGreat.E8
namespace Go.Proofs.YtnomffikflfilaaGreat.E8
open Go.Ot
set_option linter.unusedSimpArgs false
set_option linter.unusedVariables false
theorem openR_T {H : Heap} (hw : H.WF) {x : Value} {l : List Nat} (h : Bs H x l) (hb : ∀ b ∈ l, b < 256) (hl : l.length ≤ 140737488355328) :
    ∃ v H', T Tryz.prog 19 [x] H v H' ∧ ∃ y, v = .tuple #[y, .int .i64 ((openRB l).1 : Int)] ∧ OG H H' (.slice none 0 0) (openRB l).2 y := by
  refine T_by hm light19 ?_
  obtain ⟨xa, xc, hxl⟩ := h.len
  by_cases h16 : l.length < 16
  · have e : (l.length : Int) < 16 := by omega
    have ho : openRB l = (20, []) := by simp [openRB, h16]
    rw [ho, hxl]
    simp [L19, e]
    exact OG.same0 hw
  have e : ¬ (l.length : Int) < 16 := by omega
  obtain ⟨-, -, ⟨a7, c7, s7, b7⟩⟩ := h.part 16 16 (by omega) (by omega) (by omega)
  have s7' : sSlice 1 x (some (.int .i64 16)) none none = some (.slice (some a7) (l.length - 16) c7) := s7
  rw [hxl] at s7'
  have hbd : ∀ b ∈ l.drop 16, b < 256 := fun b hb' => hb b (List.mem_of_mem_drop hb')
  have hdl : (l.drop 16).length = l.length - 16 := by simp
  by_cases hbig : 1048576 < l.length - 16
  · have ho : openRB l = (21, []) := by simp [openRB, h16, hbig]
    have T1 := sealR_big b7 (by omega)
    rw [ho, hxl]
    simp [L19, e, s7']
    refine goT_of T1 ?_
    simp
    exact OG.same0 hw
  obtain ⟨v1, H1, T1, w, rfl, aw⟩ := sealR_T hw b7 hbd (by omega)
  have h1 := h.keep hw aw.base (OG.olds aw)
  have bw := own_bs aw.own
  have swl := sealB_len (l.drop 16)
  obtain ⟨wa, hwa⟩ := aw.own.len
  obtain ⟨-, ⟨a8, c8, s8, b8⟩, -⟩ := h1.part 8 8 (by omega) (by omega) (by omega)
  obtain ⟨-, ⟨a9, c9, s9, b9⟩, -⟩ := bw.part 8 8 (by omega) (by omega) (by omega)
  have s8' : sSlice 1 x none (some (.int .i64 8)) none = some (.slice (some a8) 8 c8) := s8
  have s9' : sSlice 1 w none (some (.int .i64 8)) none = some (.slice (some a9) 8 c9) := s9
  have t8 := toStr_bs b8
  have t9 := toStr_bs b9
  have tl := toStr_bs h1
  have tw := toStr_bs bw
  have hbw := sealB_lt hbd
  have n1 := neq_str (a := l.take 8) (b := (sealB (l.drop 16)).take 8) (fun b hb' => hb b (List.mem_of_mem_take hb')) (fun b hb' => hbw b (List.mem_of_mem_take hb'))
  have n2 := neq_str (a := l) (b := sealB (l.drop 16)) hb hbw
  rw [hxl] at s8' tl
  by_cases hq : l.take 8 = (sealB (l.drop 16)).take 8
  · by_cases hq2 : l = sealB (l.drop 16)
    · have ho : openRB l = (0, l.drop 16) := by unfold openRB; rw [if_neg h16, if_neg (not_or.2 ⟨hbig, fun h => h hq⟩), if_neg (fun h => h hq2)]
      obtain ⟨H2, hH2⟩ : ∃ H2, H2 = H1.new 5 1 [] := ⟨_, rfl⟩
      have w2 : H2.WF := by rw [hH2]; exact WF_new aw.wf _ _ _
      have n2' : H2.next = H1.next + 1 := by rw [hH2]; rfl
      have k2 : ∀ b, b < H1.next → H2.blk b = H1.blk b := fun b hb => by rw [hH2]; simp [show b ≠ H1.next by omega]
      have o2 : Own H2 5 1 ([] : List Nat).length (bc []) (sl H1.next 0) := Own.mk (by simp [bc]) (by rw [hH2]; exact aw.wf.next_ge) (by rw [hH2]; simp [bc])
      have b72 := (b7.keep hw aw.base (OG.olds aw)).keep aw.wf (H' := H2) (by rw [hH2]; rfl) k2
      obtain ⟨y, HA, hap, aA⟩ := OG.pour w2 o2 b72.src (by simp; omega)
      have eB : H2.base = H1.base := by rw [hH2]; rfl
      rw [ho, hxl]
      simp only [List.length_nil, Nat.zero_add, List.nil_append, hdl] at hap aA
      rw [hH2] at hap
      simp only [← hq2, ne_eq, not_true_eq_false, decide_false] at n1 n2 tw t9
      simp [L19, e, s7']
      refine goT_of T1 ?_
      simp [s8', s9', t8, t9, n1, tl, tw, n2, hap, s7']
      refine ⟨aA.base.trans (eB.trans aw.base), ?_, aA.wf, ?_, ?_, ?_⟩
      · have := aA.next; have := aw.next; omega
      · exact aA.own
      · intro b hlt _
        have := aw.next
        exact (aA.same b (by omega) (by simp; omega)).trans ((k2 b (by omega)).trans (aw.olds b hlt))
      · intro b hb
        have := aw.next
        rcases aA.old b hb with h | h
        · simp at h; omega
        · exact .inr (by omega)
    · have ho : openRB l = (22, []) := by unfold openRB; rw [if_neg h16, if_neg (not_or.2 ⟨hbig, fun h => h hq⟩), if_pos hq2]
      rw [ho, hxl]
      simp only [hq2, ne_eq, not_false_eq_true, decide_true] at n2
      simp only [hq, ne_eq, not_true_eq_false, decide_false] at n1
      rw [hq] at t8
      simp [L19, e, s7']
      refine goT_of T1 ?_
      simp [s8', s9', t8, t9, n1, tl, tw, n2]
      exact OG.grown aw.base aw.next aw.wf (OG.olds aw)
  · have ho : openRB l = (21, []) := by unfold openRB; rw [if_neg h16, if_pos (.inr hq)]
    rw [ho, hxl]
    simp only [hq, ne_eq, not_false_eq_true, decide_true] at n1
    simp [L19, e, s7']
    refine goT_of T1 ?_
    simp [s8', s9', t8, t9, n1]
    exact OG.grown aw.base aw.next aw.wf (OG.olds aw)
end Go.Proofs.YtnomffikflfilaaGreat.E8
