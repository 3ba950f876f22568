/-
  The plain law of a seal of which one byte is turned.
-/
import Derived.Test.YtpcgganldmmpoaaSeatJ
namespace Go.Proofs.Ytpcgganldmmpoaa
open Go.Ot
set_option linter.unusedSimpArgs false
set_option linter.unusedVariables false
theorem mulp_inj {a b : Nat} (ha : a < 18446744073709551616) (hb : b < 18446744073709551616) (h : a * 1099511628211 % 18446744073709551616 = b * 1099511628211 % 18446744073709551616) : a = b := by
  have key : ∀ c, c < 18446744073709551616 → (c * 1099511628211 % 18446744073709551616) * 14886173955864302971 % 18446744073709551616 = c := by
    intro c hc
    rw [Nat.mod_mul_mod, Nat.mul_assoc, Nat.mul_mod, show 1099511628211 * 14886173955864302971 % 18446744073709551616 = 1 from by decide, Nat.mul_one, Nat.mod_mod, Nat.mod_eq_of_lt hc]
  rw [← key a ha, h, key b hb]
theorem fnv1_inj_h {h h' c : Nat} (hh : h < 18446744073709551616) (hh' : h' < 18446744073709551616) (hc : c < 256) (e : fnv1 h c = fnv1 h' c) : h = h' := by
  have h1 : h ^^^ c < 18446744073709551616 := Nat.xor_lt_two_pow (n := 64) hh (by omega)
  have h2 : h' ^^^ c < 18446744073709551616 := Nat.xor_lt_two_pow (n := 64) hh' (by omega)
  have e2 := mulp_inj h1 h2 e
  have e3 := congrArg (· ^^^ c) e2
  simpa [Nat.xor_assoc] using e3
theorem fnv1_inj_c {h c c' : Nat} (hh : h < 18446744073709551616) (hc : c < 256) (hc' : c' < 256) (e : fnv1 h c = fnv1 h c') : c = c' := by
  have h1 : h ^^^ c < 18446744073709551616 := Nat.xor_lt_two_pow (n := 64) hh (by omega)
  have h2 : h ^^^ c' < 18446744073709551616 := Nat.xor_lt_two_pow (n := 64) hh (by omega)
  have e2 := mulp_inj h1 h2 e
  have e3 := congrArg (h ^^^ ·) e2
  simpa [← Nat.xor_assoc] using e3
theorem fold_inj : ∀ (l : List Nat) (a b : Nat), (∀ c ∈ l, c < 256) → a < 18446744073709551616 → b < 18446744073709551616 → l.foldl fnv1 a = l.foldl fnv1 b → a = b
  | [], a, b, _, _, _, h => h
  | c :: l, a, b, hc, ha, hb, h => fnv1_inj_h ha hb (hc c (by simp)) (fold_inj l _ _ (fun d hd => hc d (by simp [hd])) (fnv1_lt _ _) (fnv1_lt _ _) h)
theorem fold_set : ∀ (l : List Nat) (a i c : Nat), (∀ d ∈ l, d < 256) → c < 256 → a < 18446744073709551616 → (hi : i < l.length) → (l.set i c).foldl fnv1 a = l.foldl fnv1 a → c = l[i]
  | d :: l, a, 0, c, hl, hc, ha, _, h => by
    simp only [List.set_cons_zero, List.foldl_cons] at h
    have := fold_inj l _ _ (fun e he => hl e (by simp [he])) (fnv1_lt _ _) (fnv1_lt _ _) h
    exact fnv1_inj_c ha hc (hl d (by simp)) this
  | d :: l, a, i + 1, c, hl, hc, ha, hi, h => by
    simp only [List.set_cons_succ, List.foldl_cons] at h
    have := fold_set l _ i c (fun e he => hl e (by simp [he])) hc (fnv1_lt _ _) (by simpa using hi) h
    simpa using this
theorem open_seal (l : List Nat) (hb : ∀ b ∈ l, b < 256) (hl : l.length ≤ 1048576) : openB (sealB l) = (0, l) := by
  have hd : (sealB l).drop 16 = l := by
    unfold sealB
    rw [List.drop_append_of_le_length (by simp [mk4, low_len])]
    simp [mk4, low_len, List.drop_of_length_le]
  rw [open_eq _ (sealB_lt hb)]
  unfold openRB
  rw [hd, sealB_len, if_neg (by omega), if_neg (by rintro (h | h); omega; exact h rfl), if_neg (by intro h; exact h rfl)]
theorem head16 (l : List Nat) : (sealB l).take 16 = mk4 ++ low l.length 4 ++ low (fnv l) 8 := by
  unfold sealB
  rw [List.take_append_of_le_length (by simp [mk4, low_len])]
  exact List.take_of_length_le (by simp [mk4, low_len])
theorem drop16 (l : List Nat) : (sealB l).drop 16 = l := by
  unfold sealB
  rw [List.drop_append_of_le_length (by simp [mk4, low_len])]
  simp [mk4, low_len, List.drop_of_length_le]
/-- One byte turned: it isn't opened. -/
theorem open_turned (l : List Nat) (hb : ∀ b ∈ l, b < 256) (i c : Nat) (hi : i < (sealB l).length) (hc : c < 256) (hne : c ≠ (sealB l)[i]) : (openB ((sealB l).set i c)).1 ≠ 0 ∧ (openB ((sealB l).set i c)).2 = [] := by
  have hlt : ∀ b ∈ (sealB l).set i c, b < 256 := by
    intro b h
    rcases List.mem_or_eq_of_mem_set h with h | h
    · exact sealB_lt hb b h
    · omega
  have hs2 : (sealB l).set i c ≠ sealB (((sealB l).set i c).drop 16) := by
    intro h
    by_cases h16 : i < 16
    · rw [List.drop_set_of_lt h16, drop16] at h
      have := congrArg (fun m : List Nat => m[i]?) h
      simp only [List.getElem?_set_self hi, List.getElem?_eq_getElem hi, Option.some.injEq] at this
      exact hne this
    · have hd : ((sealB l).set i c).drop 16 = l.set (i - 16) c := by
        rw [List.drop_set, if_neg h16, drop16]
      rw [hd] at h
      have ht := congrArg (fun m : List Nat => m.take 16) h
      simp only [List.take_set_of_le (show 16 ≤ i by omega), head16] at ht
      have h5 := (List.append_inj ht (by simp only [List.length_append, low_len])).2
      have h6 := congrArg leN h5
      rw [leN_low _ _ (Nat.lt_of_lt_of_le (fnv_lt _) (by decide)), leN_low _ _ (Nat.lt_of_lt_of_le (fnv_lt _) (by decide))] at h6
      have hi2 : i - 16 < l.length := by rw [sealB_len] at hi; omega
      have h7 := fold_set l _ (i - 16) c hb hc (by decide) hi2 h6.symm
      apply hne
      have h8 : (sealB l)[i]? = l[i - 16]? := by
        have := congrArg (fun m : List Nat => m[i - 16]?) (drop16 l)
        simp only [List.getElem?_drop] at this
        rw [← this]; congr 1; omega
      rw [List.getElem?_eq_getElem hi, List.getElem?_eq_getElem hi2] at h8
      rw [h7]; exact (Option.some.inj h8).symm
  rw [open_eq _ hlt]
  unfold openRB
  by_cases h1 : ((sealB l).set i c).length < 16
  · rw [if_pos h1]; exact ⟨by simp, rfl⟩
  rw [if_neg h1, if_pos hs2]
  split <;> exact ⟨by simp, rfl⟩
end Go.Proofs.Ytpcgganldmmpoaa
