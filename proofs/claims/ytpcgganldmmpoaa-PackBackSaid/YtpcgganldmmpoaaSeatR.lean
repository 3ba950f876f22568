/-
  The reader by what is left; its numbers from 0 on.
-/
import Derived.Test.YtpcgganldmmpoaaSeatQ
import Derived.Test.YtpcgganldmmpoaaOtZ
namespace Go.Proofs.Ytpcgganldmmpoaa
open Go.Ot
set_option linter.unusedSimpArgs false
set_option linter.unusedVariables false
/-- At p stands a reader of the bytes b; l is left; its error (0: none). -/
structure RS (H : Heap) (p : Nat) (x : Value) (b l : List Nat) (fail : Nat) : Prop where
  rd : RD H p x b (b.length - l.length) fail
  suf : l <:+ b
abbrev rsC (x : Value) (b l : List Nat) (fail : Nat) : List Value := rdC x (b.length - l.length) fail
theorem RS.step {H : Heap} {p : Nat} {x : Value} {b l : List Nat} {fail : Nat} (h : RS H p x b l fail) {l2 : List Nat} (fail2 : Nat) (hs : l2 <:+ l) : RS (H.put p (rsC x b l2 fail2)) p x b l2 fail2 :=
  ⟨h.rd.step _ _ (by omega), hs.trans h.suf⟩
theorem RS.same {H : Heap} {p : Nat} {x : Value} {b l : List Nat} {fail : Nat} (h : RS H p x b l fail) : H.put p (rsC x b l fail) = H := h.rd.same
theorem RS.lt {H : Heap} {p : Nat} {x : Value} {b l : List Nat} {fail : Nat} (h : RS H p x b l fail) : ∀ c ∈ l, c < 256 := fun c hc => h.rd.lt c (h.suf.mem hc)
theorem RS.len {H : Heap} {p : Nat} {x : Value} {b l : List Nat} {fail : Nat} (h : RS H p x b l fail) : l.length ≤ 140737488355328 := Nat.le_trans h.suf.length_le h.rd.small
def nxS (l : List Nat) (fail : Nat) : Nat × List Nat × Nat := if fail ≠ 0 then (0, l, fail) else match l with
  | [] => (0, [], 20)
  | c :: l => (c, l, 0)
theorem next_S {H : Heap} {p : Nat} {x : Value} {b l : List Nat} {fail : Nat} (h : RS H p x b l fail) :
    T Try.prog 47 [ptr p] H (.int .u8 ((nxS l fail).1 : Int)) (H.put p (rsC x b (nxS l fail).2.1 (nxS l fail).2.2)) := by
  have h1 := next_T h.rd
  have hl := h.suf.length_le
  obtain ⟨pre, hb⟩ := h.suf
  by_cases hf : fail = 0
  · subst hf
    cases l with
    | nil =>
      have e : nx b (b.length - ([] : List Nat).length) 0 = (0, b.length, 20) := by simp [nx]
      rw [e] at h1
      exact h1
    | cons c l =>
      subst hb
      have e1 : (pre ++ c :: l).length - (c :: l).length = pre.length := by simp
      have e2 : nx (pre ++ c :: l) pre.length 0 = (c, pre.length + 1, 0) := by simp [nx]
      have e3 : (pre ++ c :: l).length - l.length = pre.length + 1 := by simp; omega
      rw [e1, e2] at h1
      have e4 : nxS (c :: l) 0 = (c, l, 0) := rfl
      rw [e4]
      simp only [rsC, e3]
      exact h1
  · have e : nx b (b.length - l.length) fail = (0, b.length - l.length, fail) := by simp [nx, hf]
    rw [e] at h1
    simpa [nxS, hf] using h1
theorem nxS_suf (l : List Nat) (fail : Nat) : (nxS l fail).2.1 <:+ l := by
  unfold nxS
  split
  · exact List.suffix_refl _
  · split
    · exact List.suffix_refl _
    · exact List.suffix_cons _ _
/-- A number from 0 on, from its i-th byte on. -/
def tu : Nat → Nat → Nat → List Nat → Nat × List Nat × Nat
  | 0, _, a, l => (a, l, 0)
  | _ + 1, _, _, [] => (0, [], 20)
  | k + 1, i, a, c :: l => if (0 < i ∧ c = 0) ∨ (i = 9 ∧ 1 < c) then (0, l, 21) else if c < 128 then (a + c % 128 * 2 ^ (7 * i), l, 0) else tu k (i + 1) (a + c % 128 * 2 ^ (7 * i)) l
def uS (l : List Nat) (fail : Nat) : Nat × List Nat × Nat := if fail ≠ 0 then (0, l, fail) else tu 10 0 0 l
theorem tu_suf : ∀ (k i a : Nat) (l : List Nat), (tu k i a l).2.1 <:+ l
  | 0, i, a, l => List.suffix_refl _
  | k + 1, i, a, [] => List.suffix_refl _
  | k + 1, i, a, c :: l => by
    simp only [tu]
    split
    · exact List.suffix_cons _ _
    · split
      · exact List.suffix_cons _ _
      · exact (tu_suf k _ _ l).trans (List.suffix_cons _ _)
theorem uS_suf (l : List Nat) (fail : Nat) : (uS l fail).2.1 <:+ l := by
  unfold uS; split
  · exact List.suffix_refl _
  · exact tu_suf _ _ _ _
theorem units (i : Nat) (h : i ≤ 9) : ∃ U, U = 2 ^ (7 * i) ∧ 0 < U ∧ (i ≤ 8 → U ≤ 72057594037927936 ∧ 2 ^ (7 * (i + 1)) = U * 128) ∧ (i = 9 → U = 9223372036854775808) := by
  refine ⟨_, rfl, Nat.pow_pos (by decide), fun h8 => ⟨?_, ?_⟩, fun h9 => by subst h9; rfl⟩
  · rw [show 72057594037927936 = 2 ^ 56 from rfl]; exact Nat.pow_le_pow_right (by decide) (by omega)
  · rw [show 7 * (i + 1) = 7 * i + 7 by omega, Nat.pow_add]
def InvR (H : Heap) (p : Nat) (x : Value) (b : List Nat) (want : Nat × List Nat × Nat) (k : Nat) (t : Tm) (H1 : Heap) : Prop :=
  ∃ (i a : Nat) (l : List Nat), i + k = 10 ∧ t 0 = ptr p ∧ t 3 = .int .u64 (a : Int) ∧ t 6 = .int .i64 (i : Int) ∧ a < 2 ^ (7 * i) ∧ H1 = H.put p (rsC x b l 0) ∧ RS H1 p x b l 0 ∧ tu k i a l = want
theorem ruint_T {H : Heap} {p : Nat} {x : Value} {b l : List Nat} {fail : Nat} (h : RS H p x b l fail) :
    T Try.prog 24 [ptr p] H (.int .u64 ((uS l fail).1 : Int)) (H.put p (rsC x b (uS l fail).2.1 (uS l fail).2.2)) := by
  refine T_eq hm light24 ?_
  by_cases hf : fail = 0
  case neg =>
    have T1 := next_S h
    have e1 : nxS l fail = (0, l, fail) := by simp [nxS, hf]
    have e2 : uS l fail = (0, l, fail) := by simp [uS, hf]
    rw [e1] at T1
    rw [e2]
    simp only at T1 ⊢
    rw [h.same] at T1 ⊢
    simp [L24]
    refine loop_at (fun (k : Nat) (t : Tm) (H1 : Heap) => t 0 = ptr p ∧ t 6 = .int .i64 0 ∧ H1 = H) 10 ?_ ?_
    · simp
    · rintro k t H1 ⟨t0, t6, rfl⟩
      have l0 := fun off => load_at (off := off) h.rd.hp h.rd.bp
      simp [L24_1, t0, t6]
      refine goT_of T1 ?_
      simp [t0, l0, hf]
  subst hf
  have eu : uS l 0 = tu 10 0 0 l := by simp [uS]
  rw [eu]
  obtain ⟨want, hw⟩ : ∃ want, want = tu 10 0 0 l := ⟨_, rfl⟩
  rw [← hw]
  simp [L24]
  refine loop_at (InvR H p x b want) 10 ?_ ?_
  · exact ⟨0, 0, l, rfl, by simp, by simp, by simp, by simp, h.same.symm, h, hw.symm⟩
  · rintro k t H1 ⟨i, a, l, hik, t0, t3, t6, ha, hH1, hr, htu⟩
    cases k with
    | zero =>
      have : i = 10 := by omega
      subst this
      simp only [tu] at htu
      subst htu
      simp [L24_1, t0, t3, t6]
      exact hH1
    | succ k =>
      have hi : i < 10 := by omega
      have T1 := next_S hr
      cases l with
      | nil =>
        simp only [tu] at htu
        subst htu
        have e1 : nxS [] 0 = (0, [], 20) := rfl
        rw [e1] at T1
        have hr2 := hr.step (l2 := []) 20 (List.suffix_refl _)
        have l2 := fun off => load_at (off := off) hr2.rd.hp hr2.rd.bp
        simp [L24_1, t0, t3, t6, hi]
        refine goT_of T1 ?_
        simp [t0, l2]
        subst hH1
        simp [put_put]
      | cons c l =>
        have e1 : nxS (c :: l) 0 = (c, l, 0) := rfl
        rw [e1] at T1
        have hr2 := hr.step (l2 := l) 0 (List.suffix_cons _ _)
        have l2 := fun off => load_at (off := off) hr2.rd.hp hr2.rd.bp
        have hc := hr.lt c (by simp)
        obtain ⟨U, hU, U0, U8, U9⟩ := units i (by omega)
        simp only [tu] at htu
        simp only [rsC] at T1 hr2 l2
        obtain ⟨at2, hat⟩ : ∃ at2, at2 = b.length - l.length := ⟨_, rfl⟩
        obtain ⟨m, hmm⟩ : ∃ m, m = c % 128 := ⟨_, rfl⟩
        rw [← hU, ← hmm] at htu
        rw [← hU] at ha
        rw [← hat] at T1 hr2 l2
        by_cases hbad : (0 < i ∧ c = 0) ∨ (i = 9 ∧ 1 < c)
        · rw [if_pos hbad] at htu
          subst htu
          obtain ⟨v3, T3⟩ := stop_T hr2.rd 21
          simp only [if_true] at T3
          simp [L24_1, t0, t3, t6, hi]
          refine goT_of T1 ?_
          rcases hbad with ⟨h1, h2⟩ | ⟨h1, h2⟩
          · subst h2
            simp [t0, l2, h1]
            refine goT_of T3 ?_
            simp
            subst hH1
            simp [put_put, hat]
          · have e3 : ¬ c = 0 := by omega
            subst h1
            simp [t0, l2, h2, e3]
            refine goT_of T3 ?_
            simp
            subst hH1
            simp [put_put, hat]
        · rw [if_neg hbad] at htu
          have f1 : i = 9 → c ≤ 1 := by intro h; omega
          have e1 : sBin .and (.int .u8 (c : Int)) (.int .u8 127) = some (.int .u8 (m : Int)) := by
            rw [sBin_and]
            have := and_u8 c 127 hc (by omega)
            rw [show c &&& 127 = m by rw [hmm]; exact Nat.and_two_pow_sub_one_eq_mod c 7] at this
            exact congrArg (fun z => some (Value.int .u8 z)) this
          have e2 : IntKind.u64.wrap (m : Int) = (m : Int) := wu64 _ (by omega)
          have e3 : IntKind.i64.wrap (7 * (i : Int)) = ((7 * i : Nat) : Int) := by rw [w64 _ (by omega)]; omega
          obtain ⟨s, hs⟩ : ∃ s, s = m * U := ⟨_, rfl⟩
          have hs64 : s < 18446744073709551616 := by
            rw [hs]
            by_cases h9 : i = 9
            · have := f1 h9; rw [U9 h9]; omega
            · have := (U8 (by omega)).1
              have : m * U ≤ 127 * 72057594037927936 := Nat.mul_le_mul (by omega) this
              omega
          have haU : a < 18446744073709551616 := by
            by_cases h9 : i = 9
            · have := U9 h9; omega
            · have := (U8 (by omega)).1; omega
          have e4 : sBin .shl (.int .u64 (m : Int)) (.int .i64 ((7 * i : Nat) : Int)) = some (.int .u64 (s : Int)) := by
            rw [shl_u64 .i64 m (7 * i) (by omega), ← hU, ← hs, Nat.mod_eq_of_lt hs64]
          have hor : a ||| s = a + s := by
            rw [hs, hU, Nat.or_comm, Nat.mul_comm, ← Nat.two_pow_add_eq_or_of_lt (by rw [← hU]; exact ha)]; omega
          have e5 : sBin .or (.int .u64 (a : Int)) (.int .u64 (s : Int)) = some (.int .u64 ((a + s : Nat) : Int)) := by
            rw [sBin_or, or_u64 a s haU hs64, hor]
          have g1 : 0 < i → ¬ c = 0 := fun h1 h2 => hbad (.inl ⟨h1, h2⟩)
          have e6 : (i : Int) + 1 = ((i + 1 : Nat) : Int) := by omega
          have e7 : IntKind.i64.wrap ((i : Int) + 1) = ((i + 1 : Nat) : Int) := by rw [w64 _ (by omega)]; omega
          obtain ⟨j, hj⟩ : ∃ j, j = 7 * i := ⟨_, rfl⟩
          obtain ⟨i1, hi1⟩ : ∃ i1, i1 = i + 1 := ⟨_, rfl⟩
          obtain ⟨a1, ha1⟩ : ∃ a1, a1 = a + s := ⟨_, rfl⟩
          rw [← hj] at e3 e4
          rw [← hi1] at e7
          rw [← ha1] at e5
          rw [← hs, ← ha1] at htu
          simp [L24_1, t0, t3, t6, hi]
          refine goT_of T1 ?_
          by_cases h128 : c < 128
          · have g3 := h128
            rw [if_pos h128] at htu
            subst htu
            by_cases hi0 : i = 0
            · have g5 : ¬ 0 < i := by omega
              have h9 : ¬ i = 9 := by omega
              simp [t0, t3, t6, l2, e1, e2, e3, e4, e5, g3, g5, h9]
              subst hH1
              simp [put_put, hat]
            · have g5 : 0 < i := by omega
              have hc0 : ¬ c = 0 := g1 g5
              have g4 := g5
              by_cases h9 : i = 9
              · have := f1 h9
                have g7 : ¬ 1 < c := by omega
                have h9d : decide (i = 9) = true := by simp [h9]
                simp [t0, t3, t6, l2, e1, e2, e3, e4, e5, g3, hc0, g5, g7, h9d]
                subst hH1
                simp [put_put, hat]
              · simp [t0, t3, t6, l2, e1, e2, e3, e4, e5, g3, hc0, g5, h9]
                subst hH1
                simp [put_put, hat]
          · have g3 := h128
            rw [if_neg h128] at htu
            have h9 : ¬ i = 9 := fun h => by have := f1 h; omega
            have hc0 : ¬ c = 0 := by omega
            have fin : a1 < 2 ^ (7 * i1) := by
              have h8 := (U8 (by omega)).2
              rw [hi1, h8, ha1, hs]
              have : m * U ≤ 127 * U := Nat.mul_le_mul_right _ (by omega)
              omega
            have fin2 : H1.put p (rdC x at2 0) = H.put p (rsC x b l 0) := by subst hH1; simp [put_put, hat]
            by_cases hi0 : i = 0
            · have g5 : ¬ 0 < i := by omega
              simp [t0, t3, t6, l2, e1, e2, e3, e4, e5, g3, g5, h9, e7]
              exact ⟨k, Nat.lt_succ_self k, i1, a1, l, by omega, by simp [t0], by simp, by simp, fin, fin2, ⟨hr2.rd, hr2.suf⟩, by rw [hi1]; exact htu⟩
            · have g5 : 0 < i := by omega
              simp [t0, t3, t6, l2, e1, e2, e3, e4, e5, g3, hc0, g5, h9, e7]
              exact ⟨k, Nat.lt_succ_self k, i1, a1, l, by omega, by simp [t0], by simp, by simp, fin, fin2, ⟨hr2.rd, hr2.suf⟩, by rw [hi1]; exact htu⟩
end Go.Proofs.Ytpcgganldmmpoaa
