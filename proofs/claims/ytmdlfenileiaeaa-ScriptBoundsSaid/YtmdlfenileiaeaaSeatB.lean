/-
  Chapter 25: the program's reader: a number, a product.
-/
import Derived.Test.YtmdlfenileiaeaaSeatA
namespace Go.Proofs.Ytmdlfenileiaeaa
open Go.Ot Go.RowKit
set_option linter.unusedSimpArgs false
set_option linter.unusedVariables false
theorem take_while_len (p : Nat → Bool) (l : List Nat) : l.take (l.takeWhile p).length = l.takeWhile p := by
  induction l with
  | nil => rfl
  | cons a l ih =>
    rw [List.takeWhile_cons]
    split
    · simp [ih]
    · rfl
def dsAt (S : List Nat) (a : Nat) : List Nat := (S.drop a).takeWhile isD
theorem bts_run (s : ByteArray) (a : Nat) : bts (s.extract a (run isD (bts s) a)) = dsAt (bts s) a := by
  rw [bts_extract]
  have : run isD (bts s) a - a = ((List.drop a (bts s)).takeWhile isD).length := by unfold run; omega
  rw [this, take_while_len]
  rfl
theorem dsAt_D (S : List Nat) (a : Nat) : ∀ c ∈ dsAt S a, isD c = true := by
  intro c hc
  unfold dsAt at hc
  have := List.all_takeWhile (p := isD) (l := S.drop a)
  rw [List.all_eq_true] at this
  exact this c hc
def numAt (S : List Nat) (a : Nat) : Option Nat := if numE (dsAt S a) = 0 ∧ valOf (dsAt S a) < 2147483648 then some (valOf (dsAt S a)) else none
/-- What comes of a number here. -/
def NumQ (s : ByteArray) (H : Heap) (p a o : Nat) (r : Out) (H' : Heap) : Prop := match numAt (bts s) a with
  | some v => r = .ret (iv v) ∧ H' = H.put p (rdr s (run isD (bts s) a) o)
  | none => r = .pan (stopV 250 a) ∧ Fr H H' p
def InvNu (s : ByteArray) (H : Heap) (p a o : Nat) (k : Nat) (t : Tm) (H1 : Heap) : Prop :=
  ∃ i, i + k = (bts s).length ∧ a ≤ i ∧ t 0 = ptr p ∧ t 3 = iv a ∧ run isD (bts s) i = run isD (bts s) a ∧ H1 = H.put p (rdr s i o)
theorem number_N {H : Heap} (hw : H.WF) {p a o : Nat} {s : ByteArray} (V : Vr H p 67 3 (rdr s a o)) (ha : a ≤ (bts s).length) (hl : (bts s).length ≤ 100000) : TN Try.prog 41 [ptr p] H (NumQ s H p a o) := by
  refine N_by hm light41 ?_
  have l1 : H.load ⟨p, 1, none⟩ = some (iv a) := V.load 1
  simp [L41, l1]
  refine loopN_at (InvNu s H p a o) ((bts s).length - a) ?_ ?_
  · exact ⟨a, by omega, Nat.le_refl _, by simp, by simp, rfl, V.same.symm⟩
  · rintro k t H1 ⟨i, hik, hai, t0, t3, hrun, rfl⟩
    have V1 : Vr (H.put p (rdr s i o)) p 67 3 (rdr s i o) := V.put _
    have l0 : (H.put p (rdr s i o)).load ⟨p, 0, none⟩ = some (.string s) := V1.load 0
    have l1 : (H.put p (rdr s i o)).load ⟨p, 1, none⟩ = some (iv i) := V1.load 1
    have fr1 : Fr H (H.put p (rdr s i o)) p := (Fr.refl hw p).put _
    obtain ⟨G, hG⟩ : ∃ G, G = H.put p (rdr s i o) := ⟨_, rfl⟩
    rw [← hG] at l0 l1 V1 fr1 ⊢
    by_cases hgo : i < (bts s).length ∧ isD ((bts s).getD i 0) = true
    · obtain ⟨hi, hb⟩ := hgo
      have hgd : (bts s).getD i 0 = (bts s)[i] := by simp [List.getD, hi]
      rw [hgd] at hb
      have e1 : (i : Int) < (s.size : Int) := by rw [len_str]; omega
      have ix := idx_str s hi
      have e4 : IntKind.i64.wrap ((i : Int) + 1) = ((i + 1 : Nat) : Int) := by rw [w64 _ (by omega)]; omega
      obtain ⟨iN, hiN⟩ : ∃ n, n = i + 1 := ⟨_, rfl⟩
      have hst : G.store ⟨p, 1, none⟩ (iv iN) = some (H.put p (rdr s iN o)) := by
        rw [V1.store 1 _ (by simp [rdr]), hG, put_put]; rfl
      rw [← hiN] at e4
      have hr2 := run_yes hi hb
      obtain ⟨c, hc⟩ : ∃ c, c = (bts s)[i] := ⟨_, rfl⟩
      rw [← hc] at hb ix
      simp only [isD, Bool.and_eq_true, decide_eq_true_eq] at hb
      have n1 : (48 : Int) ≤ c := by omega
      have n2 : (c : Int) ≤ 57 := by omega
      simp [L41_1, t0, l0, l1, e1, ix, hb, n1, n2, e4, hst]
      exact ⟨k - 1, by omega, iN, by omega, by omega, by simp [t0], by simp [t3], by rw [hiN, ← hr2, hrun], rfl⟩
    · have hr : run isD (bts s) i = i := by
        by_cases hi : i < (bts s).length
        · refine run_no hi ?_
          have hgd : (bts s).getD i 0 = (bts s)[i] := by simp [List.getD, hi]
          have : ¬ isD ((bts s).getD i 0) = true := fun h => hgo ⟨hi, h⟩
          rw [hgd] at this
          simpa using this
        · exact run_stop (by omega)
      have hra : run isD (bts s) a = i := by rw [← hrun, hr]
      have hile : i ≤ s.size := by rw [← bts_len]; omega
      have sl := slice_str s hai hile
      have hbx : bts (s.extract a i) = dsAt (bts s) a := by rw [← hra]; exact bts_run s a
      have hT := parse_T (H := G) (s.extract a i) (by rw [hbx]; exact dsAt_D _ _) (by rw [bts_extract, List.length_take, List.length_drop]; omega)
      rw [hbx] at hT
      obtain ⟨E, hE⟩ : ∃ E, E = numE (dsAt (bts s) a) := ⟨_, rfl⟩
      obtain ⟨N, hN⟩ : ∃ N, N = numN (dsAt (bts s) a) := ⟨_, rfl⟩
      rw [← hE, ← hN] at hT
      have hst : G.store ⟨p, 1, none⟩ (iv a) = some (H.put p (rdr s a o)) := by
        rw [V1.store 1 _ (by simp [rdr]), hG, put_put]; rfl
      have gN := give_N (H := H.put p (rdr s a o)) (V.put (rdr s a o)) 250
      have okQ : E = 0 → N < 2147483648 → NumQ s H p a o (.ret (iv N)) G := by
        intro h1 h2
        have hv : N = valOf (dsAt (bts s) a) := by rw [hN, numN, if_pos (by rw [← hE]; exact h1)]
        unfold NumQ numAt
        rw [if_pos ⟨by rw [← hE]; exact h1, by omega⟩]
        exact ⟨by rw [hv], by rw [hra, hG]⟩
      have noQ : (E = 0 → ¬ N < 2147483648) → NumQ s H p a o (.pan (stopV 250 a)) (H.put p (rdr s a o)) := by
        intro h
        unfold NumQ numAt
        rw [if_neg (by
          rintro ⟨h1, h2⟩
          rw [← hE] at h1
          have hv : N = valOf (dsAt (bts s) a) := by rw [hN, numN, if_pos (by rw [← hE]; exact h1)]
          exact h h1 (by omega))]
        exact ⟨rfl, (Fr.refl hw p).put _⟩
      have stopW : (i : Int) < (s.size : Int) ∨ ¬ (i : Int) < (s.size : Int) := Decidable.em _
      rcases stopW with e1 | e1
      · have hi : i < (bts s).length := by rw [len_str] at e1; omega
        have ix := idx_str s hi
        have hgd : (bts s).getD i 0 = (bts s)[i] := by simp [List.getD, hi]
        have hb : ¬ isD ((bts s).getD i 0) = true := fun h => hgo ⟨hi, h⟩
        rw [hgd] at hb
        obtain ⟨c, hc⟩ : ∃ c, c = (bts s)[i] := ⟨_, rfl⟩
        rw [← hc] at hb ix
        simp only [isD, Bool.and_eq_true, decide_eq_true_eq] at hb
        by_cases n1 : (48 : Int) ≤ c
        · have n1' : 48 ≤ c := by omega
          have n2 : ¬ (c : Int) ≤ 57 := by omega
          have n2' : ¬ c ≤ 57 := by omega
          by_cases hE0 : E = 0
          · by_cases hN0 : N < 2147483648
            · have n9 : ¬ (2147483648 : Int) ≤ N := by omega
              have := okQ hE0 hN0
              simp [L41_1, t0, t3, l0, l1, e1, ix, n1, n2, n1', n2', sl]
              refine goT_of hT ?_
              simp [hE0, n9]
              exact this
            · have n9 : (2147483648 : Int) ≤ N := by omega
              have := noQ (fun _ => hN0)
              simp [L41_1, t0, t3, l0, l1, e1, ix, n1, n2, n1', n2', sl]
              refine goT_of hT ?_
              simp [hE0, n9, t0, t3, hst]
              refine goN_of gN ?_
              rintro r H' ⟨rfl, rfl⟩ _ _ _
              simp
              exact this
          · have hE1 : (E == 0) = false := by simpa using hE0
            have hE2 : (E != 0) = true := by rw [bne, hE1]; rfl
            have := noQ (fun h => absurd h hE0)
            simp [L41_1, t0, t3, l0, l1, e1, ix, n1, n2, n1', n2', sl]
            refine goT_of hT ?_
            simp [hE2, t0, t3, hst]
            refine goN_of gN ?_
            rintro r H' ⟨rfl, rfl⟩ _ _ _
            simp
            exact this
        · have n1' : ¬ 48 ≤ c := by omega
          by_cases hE0 : E = 0
          · by_cases hN0 : N < 2147483648
            · have n9 : ¬ (2147483648 : Int) ≤ N := by omega
              have := okQ hE0 hN0
              simp [L41_1, t0, t3, l0, l1, e1, ix, n1, n1', sl]
              refine goT_of hT ?_
              simp [hE0, n9]
              exact this
            · have n9 : (2147483648 : Int) ≤ N := by omega
              have := noQ (fun _ => hN0)
              simp [L41_1, t0, t3, l0, l1, e1, ix, n1, n1', sl]
              refine goT_of hT ?_
              simp [hE0, n9, t0, t3, hst]
              refine goN_of gN ?_
              rintro r H' ⟨rfl, rfl⟩ _ _ _
              simp
              exact this
          · have hE1 : (E == 0) = false := by simpa using hE0
            have hE2 : (E != 0) = true := by rw [bne, hE1]; rfl
            have := noQ (fun h => absurd h hE0)
            simp [L41_1, t0, t3, l0, l1, e1, ix, n1, n1', sl]
            refine goT_of hT ?_
            simp [hE2, t0, t3, hst]
            refine goN_of gN ?_
            rintro r H' ⟨rfl, rfl⟩ _ _ _
            simp
            exact this
      · by_cases hE0 : E = 0
        · by_cases hN0 : N < 2147483648
          · have n9 : ¬ (2147483648 : Int) ≤ N := by omega
            have := okQ hE0 hN0
            simp [L41_1, t0, t3, l0, l1, e1, sl]
            refine goT_of hT ?_
            simp [hE0, n9]
            exact this
          · have n9 : (2147483648 : Int) ≤ N := by omega
            have := noQ (fun _ => hN0)
            simp [L41_1, t0, t3, l0, l1, e1, sl]
            refine goT_of hT ?_
            simp [hE0, n9, t0, t3, hst]
            refine goN_of gN ?_
            rintro r H' ⟨rfl, rfl⟩ _ _ _
            simp
            exact this
        · have hE1 : (E == 0) = false := by simpa using hE0
          have hE2 : (E != 0) = true := by rw [bne, hE1]; rfl
          have := noQ (fun h => absurd h hE0)
          simp [L41_1, t0, t3, l0, l1, e1, sl]
          refine goT_of hT ?_
          simp [hE2, t0, t3, hst]
          refine goN_of gN ?_
          rintro r H' ⟨rfl, rfl⟩ _ _ _
          simp
          exact this
theorem times_T {H : Heap} (a b : Int) (h : 0 ≤ a ∧ a < 2147483648) (hb : 0 ≤ b ∧ b ≤ 100000) : T Try.prog 32 [iv a, iv b] H (iv (a * b)) H := by
  refine T_eq hm light32 ?_
  have h1 : ¬ a < 0 := by omega
  have h2 : ¬ b < 0 := by omega
  have h3 : a * b ≤ 2147483648 * 100000 := Int.mul_le_mul (by omega) (by omega) (by omega) (by omega)
  have h4 : 0 ≤ a * b := Int.mul_nonneg h.1 hb.1
  obtain ⟨m, hm'⟩ : ∃ m, m = a * b := ⟨_, rfl⟩
  have w : IntKind.i64.wrap (a * b) = m := by rw [← hm', w64 _ (by omega)]
  rw [← hm']
  by_cases h0 : a = 0
  · have hm0 : m = 0 := by rw [hm', h0, Int.zero_mul]
    subst h0
    rw [hm0]
    simp [L32, h2]
  · have hb0 : (a != 0) = true := by simpa using h0
    obtain ⟨q, hq⟩ : ∃ q, q = Int.tdiv 9223372036854775807 a := ⟨_, rfl⟩
    have hqd : q = 9223372036854775807 / a := by rw [hq, Int.tdiv_eq_ediv_of_nonneg (by decide)]
    have hq1 : b ≤ q := by
      rw [hqd]
      refine (Int.le_ediv_iff_mul_le (by omega)).2 ?_
      rw [Int.mul_comm]; omega
    have hq2 : q ≤ 9223372036854775807 := by
      rw [hqd]; exact Int.ediv_le_self _ (by decide)
    have sq : sBin .quo (.int .i64 9223372036854775807) (iv a) = some (iv q) := by
      rw [sBin_quo, if_neg h0, ← hq, w64 _ (by omega)]
    have h5 : ¬ q < b := by omega
    simp [L32, h1, h2, h0, hb0, sq, h5, w]
end Go.Proofs.Ytmdlfenileiaeaa
