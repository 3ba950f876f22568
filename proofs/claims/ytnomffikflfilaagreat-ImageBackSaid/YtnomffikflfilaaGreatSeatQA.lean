/-
  Chapter 26: which jobs and configs may be, by the document (carried over from chapter 25). Chapter 26: instructions encoded, bytes sealed, by the document (carried over from chapters 8 and 2). Chapter 26: the document's opening of seals (carried over from chapter 2).
-/
import Derived.Test.YtnomffikflfilaaGreatSeatI
import Derived.Test.YtnomffikflfilaaGreatSeatLC
namespace Go.Proofs.YtnomffikflfilaaGreat
open Go.Ot Go.RowKit
theorem toE_id (l : List I8.In) : l.map toE = l := by
  conv => rhs; rw [← List.map_id l]
  rfl
end Go.Proofs.YtnomffikflfilaaGreat
namespace Go.Proofs.YtnomffikflfilaaGreat
open Go.Ot Go.RowKit
set_option linter.unusedSimpArgs false
set_option linter.unusedVariables false
end Go.Proofs.YtnomffikflfilaaGreat
namespace Go.Proofs.YtnomffikflfilaaGreat.R14
open Go.Ot
set_option linter.unusedSimpArgs false
set_option linter.unusedVariables false
theorem rightR_T {H : Heap} (op : Int) : T Tryz.prog 122 [iv op] H (.bool (right op)) H := by
  refine T_eq hm light122 ?_
  by_cases h1 : 1 ≤ op <;> by_cases h2 : op ≤ 7 <;> simp [L122, right, h1, h2]
def InvCk (H : Heap) (x : Value) (l : List (Int × Int)) (k : Nat) (t : Tm) (H1 : Heap) : Prop :=
  ∃ i : Nat, i + k = l.length ∧ t 0 = x ∧ t 3 = iv i ∧ (∀ j (h : j < l.length), j < i → right l[j].1 = true) ∧ H1 = H
theorem check_T {H : Heap} {x : Value} {l : List (Int × Int)} (hx : Twos H x l) (hl : l.length ≤ 2000000) : T Tryz.prog 89 [x] H (iv (chkC l)) H := by
  obtain ⟨a, c, hxl⟩ := hx.len
  by_cases h4 : 4 < l.length
  · rw [show chkC l = 171 by simp [chkC, h4]]
    refine T_eq hm light89 ?_
    rw [hxl]
    simp [L89, h4]
  · refine T_eq hm light89 ?_
    rw [hxl]
    simp [L89, h4]
    rw [← hxl]
    refine loop_at (InvCk H x l) l.length ?_ ?_
    · exact ⟨0, by omega, by simp [hxl], by simp, fun j _ h => absurd h (by omega), rfl⟩
    · rintro k t H1 ⟨i, hik, t0, t3, hall, rfl⟩
      cases k with
      | zero =>
        have e1 : ¬ ((i : Int) < l.length) := by omega
        have ha : l.all (fun r => right r.1) = true := by
          rw [List.all_eq_true]
          intro r hr
          obtain ⟨j, hj, rfl⟩ := List.mem_iff_getElem.1 hr
          exact hall j hj (by omega)
        have e2 : chkC l = 0 := by simp only [chkC, h4, if_false, ha, if_true]
        rw [hxl] at t0
        rw [e2]
        simp [L89_1, t3, t0, e1]
      | succ k =>
        have hil : i < l.length := by omega
        have e1 : ((i : Int) < l.length) := by omega
        have e4 : IntKind.i64.wrap ((i : Int) + 1) = ((i + 1 : Nat) : Int) := by rw [w64 _ (by omega)]; omega
        obtain ⟨iN, hiN⟩ : ∃ n : Nat, n = i + 1 := ⟨_, rfl⟩
        rw [← hiN] at e4
        obtain ⟨b, off, c2, hxb, l0, _⟩ := hx.at hil
        have t0' := t0
        rw [hxb] at t0
        have hT := rightR_T (H := H1) l[i].1
        obtain ⟨rb, hrb⟩ : ∃ rb, rb = right l[i].1 := ⟨_, rfl⟩
        rw [← hrb] at hT
        cases rb with
        | true =>
          simp [L89_1, t3, t0, e1, hil, l0]
          refine goT_of hT ?_
          simp [t3, e4]
          refine ⟨k, by omega, iN, by omega, by simp [t0'], by simp, fun j hj hji => ?_, rfl⟩
          by_cases e : j = i
          · subst e; exact hrb.symm
          · exact hall j hj (by omega)
        | false =>
          have hna : ¬ l.all (fun r => right r.1) = true := by
            intro h
            have := List.all_eq_true.1 h l[i] (List.getElem_mem hil)
            rw [← hrb] at this
            cases this
          have e2 : chkC l = 140 := by unfold chkC; rw [if_neg h4, if_neg hna]
          rw [e2]
          simp [L89_1, t3, t0, e1, hil, l0]
          refine goT_of hT ?_
          simp
end Go.Proofs.YtnomffikflfilaaGreat.R14
namespace Go.Proofs.YtnomffikflfilaaGreat
open Go.Ot Go.RowKit
open R14 (Twos)
set_option linter.unusedSimpArgs false
set_option linter.unusedVariables false
end Go.Proofs.YtnomffikflfilaaGreat
namespace Go.Proofs.YtnomffikflfilaaGreat
open Go.Ot Go.RowKit
open R14 (Twos)
set_option linter.unusedSimpArgs false
set_option linter.unusedVariables false
end Go.Proofs.YtnomffikflfilaaGreat
namespace Go.Proofs.YtnomffikflfilaaGreat
open Go.Ot Go.RowKit
open R14 (Twos chkC NewQ)
open I8 (In rowI checkV)
set_option linter.unusedSimpArgs false
set_option linter.unusedVariables false
end Go.Proofs.YtnomffikflfilaaGreat
namespace Go.Proofs.YtnomffikflfilaaGreat.E8
open I8
open Go.Ot Go.RowKit
set_option linter.unusedSimpArgs false
set_option linter.unusedVariables false
set_option maxRecDepth 100000
end Go.Proofs.YtnomffikflfilaaGreat.E8
namespace Go.Proofs.YtnomffikflfilaaGreat.E8
open I8
open Go.Ot
set_option linter.unusedSimpArgs false
set_option linter.unusedVariables false
set_option maxRecDepth 100000
end Go.Proofs.YtnomffikflfilaaGreat.E8
namespace Go.Proofs.YtnomffikflfilaaGreat.E8
open I8
open Go.Ot
set_option linter.unusedSimpArgs false
set_option linter.unusedVariables false
set_option maxRecDepth 100000
end Go.Proofs.YtnomffikflfilaaGreat.E8
namespace Go.Proofs.YtnomffikflfilaaGreat.E8
open I8
open Go.Ot
set_option linter.unusedSimpArgs false
set_option linter.unusedVariables false
end Go.Proofs.YtnomffikflfilaaGreat.E8
