/-
  The plain law of seals: both openings answer alike; PackSeals answers true at all bytes.
-/
import Derived.Test.YtpcgganldmmpoaaSeatH
namespace Go.Proofs.Ytpcgganldmmpoaa
open Go.Ot
set_option linter.unusedSimpArgs false
set_option linter.unusedVariables false
theorem low_leN : ∀ (l : List Nat), (∀ b ∈ l, b < 256) → low (leN l) l.length = l
  | [], _ => rfl
  | b :: l, h => by
    have h2 := h b (by simp)
    simp only [leN, List.length_cons, low]
    rw [show (b + 256 * leN l) % 256 = b by omega, show (b + 256 * leN l) / 256 = leN l by omega, low_leN l (fun c hc => h c (by simp [hc]))]
theorem leN_low (k : Nat) : ∀ n, n < 256 ^ k → leN (low n k) = n := by
  induction k with
  | zero => intro n h; simp at h; subst h; rfl
  | succ k ih =>
    intro n h
    rw [Nat.pow_succ] at h
    simp only [low, leN]
    rw [ih (n / 256) (by omega)]
    omega
theorem leN_iff (l : List Nat) (h : ∀ b ∈ l, b < 256) (n : Nat) (hn : n < 256 ^ l.length) : leN l = n ↔ l = low n l.length := by
  constructor
  · intro e; rw [← e, low_leN l h]
  · intro e
    have := leN_low l.length n hn
    rw [← e] at this; exact this
theorem split16 (l : List Nat) (h : 16 ≤ l.length) : l = l.take 4 ++ (l.take 8).drop 4 ++ (l.take 16).drop 8 ++ l.drop 16 := by
  have h1 : l.take 8 = l.take 4 ++ (l.take 8).drop 4 := by
    conv => lhs; rw [← List.take_append_drop 4 (l.take 8)]
    rw [List.take_take]; rfl
  have h2 : l.take 16 = l.take 8 ++ (l.take 16).drop 8 := by
    conv => lhs; rw [← List.take_append_drop 8 (l.take 16)]
    rw [List.take_take]; rfl
  conv => lhs; rw [← List.take_append_drop 16 l, h2, h1]
theorem open_eq (l : List Nat) (hb : ∀ b ∈ l, b < 256) : openB l = openRB l := by
  unfold openB openRB
  by_cases h16 : l.length < 16
  · rw [if_pos h16, if_pos h16]
  rw [if_neg h16, if_neg h16]
  by_cases hbig : 1048576 < l.length - 16
  · rw [if_pos (.inr (.inr hbig)), if_pos (.inl hbig)]
  have hs := split16 l (by omega)
  have l4 : (l.take 4).length = 4 := by simp; omega
  have l8 : ((l.take 8).drop 4).length = 4 := by simp; omega
  have l16 : ((l.take 16).drop 8).length = 8 := by simp; omega
  have i1 := leN_iff ((l.take 8).drop 4) (fun b h => hb b (List.mem_of_mem_take (List.mem_of_mem_drop h))) (l.length - 16) (by rw [l8]; omega)
  have i2 := leN_iff ((l.take 16).drop 8) (fun b h => hb b (List.mem_of_mem_take (List.mem_of_mem_drop h))) (fnv (l.drop 16)) (by rw [l16]; exact Nat.lt_of_lt_of_le (fnv_lt _) (by decide))
  rw [l8] at i1
  rw [l16] at i2
  have hd : (l.drop 16).length = l.length - 16 := by simp
  have t8 : l.take 8 = l.take 4 ++ (l.take 8).drop 4 := by
    conv => lhs; rw [← List.take_append_drop 4 (l.take 8)]
    rw [List.take_take]; rfl
  have s8 : (sealB (l.drop 16)).take 8 = mk4 ++ low (l.length - 16) 4 := by
    unfold sealB
    rw [hd, List.append_assoc, List.append_assoc, ← List.append_assoc mk4]
    rw [List.take_append_of_le_length (by simp [mk4, low_len])]
    exact List.take_of_length_le (by simp [mk4, low_len])
  have e1 : l.take 8 = (sealB (l.drop 16)).take 8 ↔ l.take 4 = mk4 ∧ leN ((l.take 8).drop 4) = l.length - 16 := by
    rw [i1]
    constructor
    · intro h
      exact List.append_inj (t8.symm.trans (h.trans s8)) (by rw [l4]; rfl)
    · rintro ⟨h1, h2⟩
      refine (t8.trans ?_).trans s8.symm
      exact h1 ▸ h2 ▸ rfl
  have hdef : sealB (l.drop 16) = mk4 ++ low (l.length - 16) 4 ++ low (fnv (l.drop 16)) 8 ++ l.drop 16 := by unfold sealB; rw [hd]
  have e2 : (l.take 4 = mk4 ∧ leN ((l.take 8).drop 4) = l.length - 16) → (l = sealB (l.drop 16) ↔ leN ((l.take 16).drop 8) = fnv (l.drop 16)) := by
    rintro ⟨h1, h2⟩
    rw [i2]
    have h3 := i1.1 h2
    constructor
    · intro h
      have h' := hs.symm.trans (h.trans hdef)
      have h5 := (List.append_inj h' (by simp only [List.length_append, l4, l8, l16, low_len]; rfl)).1
      exact (List.append_inj h5 (by simp only [List.length_append, l4, l8, low_len]; rfl)).2
    · intro h
      refine (hs.trans ?_).trans hdef.symm
      exact congrArg (· ++ l.drop 16) (congr (congrArg (· ++ ·) (congr (congrArg (· ++ ·) h1) h3)) h)
  by_cases hq : l.take 4 = mk4 ∧ leN ((l.take 8).drop 4) = l.length - 16
  · rw [if_neg (show ¬ (l.take 4 ≠ mk4 ∨ leN ((l.take 8).drop 4) ≠ l.length - 16 ∨ 1048576 < l.length - 16) by
      rintro (h | h | h)
      · exact h hq.1
      · exact h hq.2
      · exact hbig h), if_neg (show ¬ (1048576 < l.length - 16 ∨ l.take 8 ≠ (sealB (l.drop 16)).take 8) by
      rintro (h | h)
      · exact hbig h
      · exact h (e1.2 hq))]
    by_cases hs2 : l = sealB (l.drop 16)
    · rw [if_neg (fun h => h ((e2 hq).1 hs2)), if_neg (fun h => h hs2)]
    · rw [if_pos (fun h => hs2 ((e2 hq).2 h)), if_pos hs2]
  · have : l.take 4 ≠ mk4 ∨ leN ((l.take 8).drop 4) ≠ l.length - 16 ∨ 1048576 < l.length - 16 := by
      by_cases h1 : l.take 4 = mk4
      · exact .inr (.inl fun h => hq ⟨h1, h⟩)
      · exact .inl h1
    rw [if_pos this, if_pos (.inr fun h => hq (e1.1 h))]
end Go.Proofs.Ytpcgganldmmpoaa
