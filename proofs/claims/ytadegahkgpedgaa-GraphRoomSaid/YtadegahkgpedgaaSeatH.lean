/-
  Chapter 23: GraphRoom.
-/
import Derived.Test.YtadegahkgpedgaaSeatG
namespace Go.Proofs.Ytadegahkgpedgaa
open Go.Ot Go.RowKit
set_option linter.unusedSimpArgs false
set_option linter.unusedVariables false
def pathE (n : Nat) : List Ed := (List.range n).map fun (i : Nat) => ((i : Int) + 1, (i : Int))
theorem path_len (n : Nat) : (pathE n).length = n := by simp [pathE]
theorem path_get {n i : Nat} (h : i < (pathE n).length) : (pathE n)[i] = ((i : Int) + 1, (i : Int)) := by simp [pathE]
theorem path_succ (n : Nat) : pathE (n + 1) = pathE n ++ [((n : Int) + 1, (n : Int))] := by simp [pathE, List.range_succ]
theorem path_place (n i : Nat) (h : i ≤ n) : PlaceV (pathE n) ((i : Int) + 1, (i : Int)) i := by
  refine ⟨by rw [path_len]; exact h, ?_, ?_⟩
  · intro q hq hqi
    rw [path_get]
    simp only [befB, Bool.or_eq_true, Bool.and_eq_true, decide_eq_true_eq]
    omega
  · intro q hq hqi
    rw [path_get]
    simp only [befB, Bool.or_eq_false_iff, Bool.and_eq_false_iff, decide_eq_false_iff_not]
    omega
theorem path_high (n : Nat) (hn : 1 ≤ n) : PlaceV (pathE n) ((n : Int) + 5, 0) 1 := by
  refine ⟨by rw [path_len]; exact hn, ?_, ?_⟩
  · intro q hq hqi
    rw [path_get]
    simp only [befB, Bool.or_eq_true, Bool.and_eq_true, decide_eq_true_eq]
    omega
  · intro q hq hqi
    rw [path_get]
    simp only [befB, Bool.or_eq_false_iff, Bool.and_eq_false_iff, decide_eq_false_iff_not]
    omega
theorem path_off (n : Nat) : (pathE n).filter (offE 0) = (pathE n).drop 1 := by
  cases n with
  | zero => rfl
  | succ n =>
    have h1 : pathE (n + 1) = (1, 0) :: (List.range n).map fun (i : Nat) => ((i : Int) + 1 + 1, (i : Int) + 1) := by
      simp [pathE, List.range_succ_eq_map]
    rw [h1]
    have h2 : offE 0 (1, 0) = false := by decide
    rw [List.filter_cons, h2]
    simp only [Bool.false_eq_true, if_false, List.drop_one, List.tail_cons]
    rw [List.filter_eq_self.2]
    intro e he
    obtain ⟨i, _, rfl⟩ := List.mem_map.1 he
    simp only [offE, Bool.and_eq_true, bne_iff_ne]
    omega
theorem low_place (n : Nat) : PlaceV ((pathE n).drop 1) ((n : Int) + 5, 0) 0 := by
  refine ⟨Nat.zero_le _, fun q _ h => absurd h (by omega), ?_⟩
  intro q hq _
  rw [List.getElem_drop, path_get]
  simp only [befB, Bool.or_eq_false_iff, Bool.and_eq_false_iff, decide_eq_false_iff_not]
  omega
def endE (n : Nat) : List Ed := ((n : Int) + 5, 0) :: (pathE n).drop 1
theorem rd_cons (e : Ed) (L : List Ed) (w : Int) : rd (e :: L) w = (if e.2 = w then [e.1] else []) ++ rd L w := by
  unfold rd
  rw [List.filter_cons]
  by_cases h : e.2 = w <;> simp [h]
theorem rd_path (n i : Nat) : rd (pathE n) i = if i < n then [(i : Int) + 1] else [] := by
  induction n with
  | zero => rfl
  | succ n ih =>
    have h : rd (pathE (n + 1)) i = rd (pathE n) i ++ (if n = i then [(n : Int) + 1] else []) := by
      rw [path_succ]
      unfold rd
      rw [List.filter_append, List.map_append]
      congr 1
      by_cases h : n = i
      · simp [h]
      · have : ((n : Int) == (i : Int)) = false := by simpa using h
        simp [this, h]
    rw [h, ih]
    by_cases h1 : i < n
    · have h2 : ¬ n = i := by omega
      simp [h1, h2, Nat.lt_succ_of_lt h1]
    · by_cases h2 : n = i
      · subst h2; simp
      · have h3 : ¬ i < n + 1 := by omega
        simp [h1, h2, h3]
theorem rd_end (n i : Nat) : rd (endE n) ((i : Int) + 1) = if i + 1 < n then [(i : Int) + 2] else [] := by
  have h0 : rd (pathE n) ((i + 1 : Nat) : Int) = rd ((pathE n).take 1) ((i + 1 : Nat) : Int) ++ rd ((pathE n).drop 1) ((i + 1 : Nat) : Int) := rd_split _ _ _
  have h1 : rd ((pathE n).take 1) ((i + 1 : Nat) : Int) = [] := by
    apply rd_none
    intro q hq
    rw [List.length_take] at hq
    rw [List.getElem_take, path_get]
    simp only
    omega
  rw [h1, rd_path, List.nil_append] at h0
  have e : ((i + 1 : Nat) : Int) = (i : Int) + 1 := by omega
  rw [e] at h0
  unfold endE
  rw [rd_cons, ← h0, if_neg (by simp only; omega)]
  simp
  split
  · rfl
  · rfl
def chainL (n : Nat) : List Int := (List.range n).map fun (i : Nat) => (i : Int) + 1
theorem chain_ok (n : Nat) : Chain (endE n) (chainL n) := by
  constructor
  · intro i h
    have hn : i < n := by simpa [chainL] using h
    have hg : (chainL n)[i] = (i : Int) + 1 := by simp [chainL]
    rw [hg, rd_end]
    by_cases h1 : i + 1 < n
    · have h2 : i + 1 < (chainL n).length := by simpa [chainL] using h1
      rw [if_pos h1, List.drop_eq_getElem_cons h2]
      simp [chainL]
      omega
    · rw [if_neg h1, List.drop_eq_nil_of_le (by simp [chainL]; omega)]
      rfl
  · intro i h
    simp [chainL]
    omega
def InvG (p n : Nat) (k : Nat) (t : Tm) (H1 : Heap) : Prop :=
  ∃ i x, i + k = n ∧ t 0 = iv n ∧ t 3 = ptr p ∧ t 5 = iv i ∧ GR H1 p n (pathE i) x ∧ H1.WF
theorem room_T {H : Heap} (hw : H.WF) (room : Int) : ∃ v H', T Try.prog 3 [iv room] H v H' ∧ v = .bool true := by
  refine T_by hm light3 ?_
  by_cases hr : room < 1 ∨ 512 < room
  · simp [L3]
    refine goT_of (new_no hr) ?_
    by_cases h1 : room < 1
    · simp [h1]
      refine goT_of (alive_T H) ?_
      simp
    · have h2 : 512 < room := by omega
      simp [h1, h2]
      refine goT_of (alive_T H) ?_
      simp
  · obtain ⟨n, rfl⟩ : ∃ n : Nat, room = n := ⟨room.toNat, by omega⟩
    have hn : 1 ≤ n ∧ n ≤ 512 := by omega
    obtain ⟨H1, hT, g0, hw1, _, _, _⟩ := new_T hw (room := n) (by omega)
    simp [L3]
    refine goT_of hT ?_
    simp
    refine loop_at (InvG H.next n) n ?_ ?_
    · exact ⟨0, _, by omega, by simp, by simp, by simp, g0, hw1⟩
    · rintro k t H2 ⟨i, x, hik, t0, t3, t5, g, w2⟩
      cases k with
      | zero =>
        have e1 : ¬ ((i : Int) < (n : Int)) := by omega
        obtain rfl : i = n := by omega
        have A1 := add_old w2 g (r := (i : Int) + 5) (w := 0) (by omega) ⟨1, path_high i hn.1, .inr (by rw [path_len])⟩
        have hm1 : ¬ ((i : Int) + 5, (0 : Int)) ∈ pathE i := by
          intro h
          obtain ⟨q, hq, he⟩ := List.getElem_of_mem h
          rw [path_get] at he
          rw [path_len] at hq
          have := congrArg Prod.fst he
          simp at this
          omega
        rw [if_neg hm1] at A1
        have hg0 : (pathE i)[0]? = some ((1 : Int), (0 : Int)) := by
          rw [List.getElem?_eq_getElem (by rw [path_len]; omega), path_get]; rfl
        have pl0 := path_place i 0 (by omega)
        have A2 := add_old w2 g (r := 1) (w := 0) (by omega) ⟨0, pl0, .inl hg0⟩
        rw [if_pos (List.mem_of_getElem? hg0)] at A2
        obtain ⟨H3, x3, A3, g3, a3⟩ := remove_T w2 g 0
        rw [path_off] at A3 g3
        have hlen : ((pathE i).length - ((pathE i).drop 1).length : Nat) = 1 := by
          rw [List.length_drop, path_len]; omega
        rw [hlen] at A3
        have hne : ((pathE i).drop 1)[0]? ≠ some ((i : Int) + 5, (0 : Int)) := by
          intro h
          have := List.mem_of_mem_drop (List.mem_of_getElem? h)
          exact hm1 this
        obtain ⟨H4, x4, A4, g4, a4⟩ := add_new a3.wf g3 (r := (i : Int) + 5) (w := 0) (by omega) (low_place i) hne (by rw [List.length_drop, path_len]; omega) (by rw [List.length_drop, path_len]; omega)
        have g4' : GR H4 H.next i (endE i) x4 := g4
        have hf : ∀ e ∈ endE i, -9223372036854775808 ≤ e.1 := by
          intro e he
          rcases List.mem_cons.1 he with rfl | he
          · simp; omega
          · obtain ⟨q, hq, rfl⟩ := List.getElem_of_mem (List.mem_of_mem_drop he)
            rw [path_get]; simp; omega
        have hch0 : (chainL i)[0]? = some 1 := by
          obtain ⟨j, rfl⟩ : ∃ j, i = j + 1 := ⟨i - 1, by omega⟩
          simp [chainL]
        obtain ⟨o, H5, A5, r5⟩ := fall_T a4.wf g4' hf (chain_ok i) hch0 (by simp [chainL]; omega)
        obtain ⟨a9, ho⟩ := r5.own.len
        have hcl : (chainL i).length = i := by simp [chainL]
        rw [hcl] at ho
        have c1 : IntKind.i64.wrap ((i : Int) + 5) = (i : Int) + 5 := by rw [w64 _ (by omega)]
        have A3' : T Try.prog 10 [ptr H.next, iv 0] H2 (iv 1) H3 := A3
        simp [L3_1, t0, t5, e1, t3, c1]
        refine goT_of A1 ?_
        simp [t3, c1]
        refine goT_of A2 ?_
        simp [t3, c1]
        refine goT_of A3' ?_
        simp [t3, t0, c1]
        refine goT_of A4 ?_
        simp [t3, t0, c1]
        refine goT_of A5 ?_
        simp [ho, t0]
        refine goT_of (alive_T H5) ?_
        simp
      | succ k =>
        have e1 : ((i : Int) < (n : Int)) := by omega
        have pl := path_place i i (Nat.le_refl _)
        have hno : (pathE i)[i]? ≠ some ((i : Int) + 1, (i : Int)) := by
          rw [List.getElem?_eq_none (by rw [path_len]; exact Nat.le_refl _)]
          simp
        obtain ⟨H3, x3, A1, g3, a3⟩ := add_new w2 g (r := (i : Int) + 1) (w := i) (by omega) pl hno (by rw [path_len]; omega) (by rw [path_len]; omega)
        have hL : (pathE i).take i ++ ((i : Int) + 1, (i : Int)) :: (pathE i).drop i = pathE (i + 1) := by
          rw [List.take_of_length_le (by rw [path_len]; exact Nat.le_refl _), List.drop_eq_nil_of_le (by rw [path_len]; exact Nat.le_refl _), path_succ]
        rw [hL] at g3
        have hg : (pathE (i + 1))[i]? = some ((i : Int) + 1, (i : Int)) := by
          rw [List.getElem?_eq_getElem (by rw [path_len]; omega), path_get]
        have A2 := add_old a3.wf g3 (r := (i : Int) + 1) (w := i) (by omega) ⟨i, path_place (i + 1) i (by omega), .inl hg⟩
        rw [if_pos (List.mem_of_getElem? hg)] at A2
        have A3 := len_T g3
        rw [path_len] at A3
        have c1 : IntKind.i64.wrap ((i : Int) + 1) = (i : Int) + 1 := by rw [w64 _ (by omega)]
        have e5 : ((i + 1 : Nat) : Int) = (i : Int) + 1 := by omega
        rw [e5] at A3
        simp [L3_1, t0, t5, e1, t3, c1]
        refine goT_of A1 ?_
        simp [t3, t5, c1]
        refine goT_of A2 ?_
        simp [t3, t5, c1]
        refine goT_of A3 ?_
        simp [t5, c1]
        exact ⟨k, by omega, i + 1, x3, by omega, by simp [t0], by simp [t3], by simp, g3, a3.wf⟩
theorem room_U {H : Heap} (hw : H.WF) {room : Int} (_ : -9223372036854775808 ≤ room ∧ room ≤ 9223372036854775807) : ∃ v H', T Try.prog 3 [iv room] H v H' ∧ v = .bool true := room_T hw room
end Go.Proofs.Ytadegahkgpedgaa
