/-
  Chapter 8: what is decoded is encoded as it was: the plain law.
-/
import Derived.Test.YtkocomnfomjfiaaSeatAC
namespace Go.Proofs.Ytkocomnfomjfiaa
open Go.Ot Go.RowKit
set_option linter.unusedSimpArgs false
set_option linter.unusedVariables false
theorem uS_ok {l : List Nat} {f : Nat} (h : (uS l f).2.2 = 0) : f = 0 := by
  apply Classical.byContradiction
  intro hf
  unfold uS at h
  rw [if_pos hf] at h
  exact hf h
theorem zz_unzz (u : Nat) : zz (unzz u) = u := by
  unfold unzz zz
  split <;> split <;> omega
theorem stU_inv {has : Bool} {set : In → Int → In} {s : St} (h : (stU 256 has set s).2.2 = 0) (hl : ∀ c ∈ s.2.1, c < 256) :
    ∃ v : Int, 0 ≤ v ∧ (stU 256 has set s).1 = (if has then set s.1 v else s.1) ∧ s.2.2 = 0 ∧ ((has = true → v ≤ 255) → s.2.1 = encP (has, v) ++ (stU 256 has set s).2.1) := by
  obtain ⟨x, l, f⟩ := s
  cases has with
  | false => exact ⟨0, by omega, by simp [stU], h, fun _ => by simp [stU, encP]⟩
  | true =>
    have h' : (uS l f).2.2 = 0 := h
    have hf := uS_ok h'
    simp only at hf hl
    subst hf
    refine ⟨((rdP 256 l 0).1 : Int), by omega, rfl, rfl, fun hv => ?_⟩
    have hv := hv rfl
    have e : (rdP 256 l 0).1 = (uS l 0).1 := by
      have : (rdP 256 l 0).1 = min (uS l 0).1 256 := rfl
      omega
    have := uS_enc l hl h'
    show l = encU ((rdP 256 l 0).1 : Int).toNat ++ (uS l 0).2.1
    rw [e]
    exact this
theorem stK_inv {has : Bool} {s : St} (h : (stK has s).2.2 = 0) (hl : ∀ c ∈ s.2.1, c < 256) :
    ∃ k : Int, (has = true → okI k) ∧ (stK has s).1 = (if has then { s.1 with k := k } else s.1) ∧ s.2.2 = 0 ∧ s.2.1 = (if has then encU (zz k) else []) ++ (stK has s).2.1 := by
  obtain ⟨x, l, f⟩ := s
  cases has with
  | false => exact ⟨0, by simp, by simp [stK], h, by simp [stK]⟩
  | true =>
    have h' : (uS l f).2.2 = 0 := h
    have hf := uS_ok h'
    simp only at hf hl
    subst hf
    have hu := uS_lt l 0 hl
    refine ⟨(iS l 0).1, fun _ => ?_, rfl, rfl, ?_⟩
    · show okI (unzz (uS l 0).1)
      unfold okI unzz
      split <;> omega
    · have := uS_enc l hl h'
      show l = encU (zz (unzz (uS l 0).1)) ++ (uS l 0).2.1
      rw [zz_unzz]
      exact this
theorem parts_inv {kk : Int} {l1 : List Nat} {f1 : Nat} {cells long : Int} (h : (partsS 256 (shp kk) (newI kk, l1, f1)).2.2 = 0) (hl : ∀ c ∈ l1, c < 256) :
    (partsS 256 (shp kk) (newI kk, l1, f1)).1.kind = kk ∧ f1 = 0 ∧ (oneV (partsS 256 (shp kk) (newI kk, l1, f1)).1 cells long = 0 →
      l1 = encPs (pairs (shp kk) (partsS 256 (shp kk) (newI kk, l1, f1)).1) ++ (if (shp kk).k then encU (zz (partsS 256 (shp kk) (newI kk, l1, f1)).1.k) else []) ++ (partsS 256 (shp kk) (newI kk, l1, f1)).2.1) ∧
      okI (partsS 256 (shp kk) (newI kk, l1, f1)).1.k := by
  have hsms : ∀ x : In, x.kind = kk → oneV x cells long = 0 → ∀ q ∈ pairs (shp kk) x, smQ q := fun x hx h => by rw [← hx]; exact sms h
  obtain ⟨sh, hsh⟩ : ∃ sh, sh = shp kk := ⟨_, rfl⟩
  rw [← hsh] at h hsms ⊢
  obtain ⟨s0, hs0⟩ : ∃ s0 : St, s0 = (newI kk, l1, f1) := ⟨_, rfl⟩
  obtain ⟨s1, hs1⟩ : ∃ s1, s1 = stU 256 (sh.one || sh.two) setOp s0 := ⟨_, rfl⟩
  obtain ⟨s2, hs2⟩ : ∃ s2, s2 = stU 256 sh.a setA s1 := ⟨_, rfl⟩
  obtain ⟨s3, hs3⟩ : ∃ s3, s3 = stU 256 sh.b setB s2 := ⟨_, rfl⟩
  obtain ⟨s4, hs4⟩ : ∃ s4, s4 = stU 256 (sh.c || sh.cell) setC s3 := ⟨_, rfl⟩
  obtain ⟨s5, hs5⟩ : ∃ s5, s5 = stK sh.k s4 := ⟨_, rfl⟩
  have hp : partsS 256 sh (newI kk, l1, f1) = s5 := by rw [hs5, hs4, hs3, hs2, hs1, hs0]; rfl
  rw [hp] at h ⊢
  have l0' : ∀ c ∈ s0.2.1, c < 256 := by rw [hs0]; exact hl
  have l1' : ∀ c ∈ s1.2.1, c < 256 := fun c hc => l0' c ((by rw [hs1]; exact stU_suf _ _ _ _ : s1.2.1 <:+ s0.2.1).mem hc)
  have l2' : ∀ c ∈ s2.2.1, c < 256 := fun c hc => l1' c ((by rw [hs2]; exact stU_suf _ _ _ _ : s2.2.1 <:+ s1.2.1).mem hc)
  have l3' : ∀ c ∈ s3.2.1, c < 256 := fun c hc => l2' c ((by rw [hs3]; exact stU_suf _ _ _ _ : s3.2.1 <:+ s2.2.1).mem hc)
  have l4' : ∀ c ∈ s4.2.1, c < 256 := fun c hc => l3' c ((by rw [hs4]; exact stU_suf _ _ _ _ : s4.2.1 <:+ s3.2.1).mem hc)
  rw [hs5] at h
  obtain ⟨k, hk, x5, f4, e5⟩ := stK_inv h l4'
  rw [← hs5] at x5 e5
  rw [hs4] at f4
  obtain ⟨v4, p4, x4, f3, e4⟩ := stU_inv f4 l3'
  rw [← hs4] at x4 e4
  rw [hs3] at f3
  obtain ⟨v3, p3, x3, f2, e3⟩ := stU_inv f3 l2'
  rw [← hs3] at x3 e3
  rw [hs2] at f2
  obtain ⟨v2, p2, x2, f1', e2⟩ := stU_inv f2 l1'
  rw [← hs2] at x2 e2
  rw [hs1] at f1'
  obtain ⟨v1, p1, x1, f0, e1⟩ := stU_inv f1' l0'
  rw [← hs1] at x1 e1
  rw [hs0] at f0 x1 e1
  simp only at f0 x1 e1
  have hx : s5.1 = ⟨kk, if sh.one || sh.two then v1 else 0, if sh.a then v2 else 0, if sh.b then v3 else 0, if sh.c || sh.cell then v4 else 0, if sh.k then k else 0⟩ := by
    rw [x5, x4, x3, x2, x1]
    generalize (sh.one || sh.two) = oo
    generalize (sh.c || sh.cell) = cc
    generalize sh.a = aa
    generalize sh.b = bb
    generalize sh.k = kb
    cases oo <;> cases aa <;> cases bb <;> cases cc <;> cases kb <;> simp [newI, setOp, setA, setB, setC]
  refine ⟨by rw [hx], f0, fun h1 => ?_, ?_⟩
  · have hq := hsms s5.1 (by rw [hx]) h1
    rw [hx] at hq ⊢
    simp only [pairs, List.mem_cons, List.mem_nil_iff, or_false, forall_eq_or_imp, forall_eq] at hq
    obtain ⟨q1, q2, q3, q4⟩ := hq
    unfold smQ at q1 q2 q3 q4
    simp only at q1 q2 q3 q4
    have e1' := e1 (fun hh => by have := q1 hh; rw [if_pos hh] at this; omega)
    have e2' := e2 (fun hh => by have := q2 hh; rw [if_pos hh] at this; omega)
    have e3' := e3 (fun hh => by have := q3 hh; rw [if_pos hh] at this; omega)
    have e4' := e4 (fun hh => by have := q4 hh; rw [if_pos hh] at this; omega)
    have ep : ∀ (has : Bool) (v : Int), encP (has, v) = encP (has, if has then v else 0) := fun has v => by cases has <;> rfl
    have ek : (if sh.k then encU (zz k) else []) = (if sh.k then encU (zz (if sh.k then k else 0)) else []) := by cases sh.k <;> rfl
    rw [e1', e2', e3', e4', e5, ep _ v1, ep _ v2, ep _ v3, ep _ v4, ek]
    simp [encPs, pairs]
  · rw [hx]
    simp only
    split
    · rename_i hh; exact hk hh
    · unfold okI; omega
theorem loop_fail (M : Nat) : ∀ (n : Nat) (l : List Nat) (f : Nat) (acc : List In), f ≠ 0 → (loopS M n l f acc).1 = 0 → (loopS M n l f acc).2.2.2 ≠ 0
  | 0, l, f, acc, hf, h => hf
  | n + 1, l, f, acc, hf, h => by
    have e : (rdP M l f).2.2 = f := by unfold rdP uS; rw [if_pos hf]
    simp only [loopS] at h ⊢
    rw [if_pos (by rw [e]; exact hf)] at h
    rw [e] at h
    exact absurd h hf
theorem loop_inv {cells long : Int} : ∀ (n : Nat) (l : List Nat) (f : Nat) (acc acc' : List In) (l' : List Nat), loopS 256 n l f acc = (0, acc', l', 0) → (∀ c ∈ l, c < 256) →
    ∃ new : List In, acc' = acc ++ new ∧ new.length = n ∧ (∀ x ∈ new, okI x.k) ∧ ((∀ x ∈ new, oneV x cells long = 0) → l = encAll new ++ l')
  | 0, l, f, acc, acc', l', h, hl => by
    simp only [loopS, Prod.mk.injEq, true_and] at h
    obtain ⟨rfl, rfl, rfl⟩ := h
    exact ⟨[], by simp, rfl, by simp, fun _ => by simp [encAll]⟩
  | n + 1, l, f, acc, acc', l', h, hl => by
    simp only [loopS] at h
    by_cases h1 : (rdP 256 l f).2.2 ≠ 0
    · rw [if_pos h1] at h
      have := congrArg Prod.fst h
      exact absurd this h1
    rw [if_neg h1] at h
    have h1' : (uS l f).2.2 = 0 := Classical.byContradiction h1
    have hf := uS_ok h1'
    subst hf
    by_cases h2 : valid ((rdP 256 l 0).1 : Int) = false
    · rw [if_pos h2] at h
      have := congrArg Prod.fst h
      simp at this
    rw [if_neg h2] at h
    have hv : valid ((rdP 256 l 0).1 : Int) = true := by simpa using h2
    have hr : 1 ≤ ((rdP 256 l 0).1 : Int) ∧ ((rdP 256 l 0).1 : Int) ≤ 13 := by simpa [valid] using hv
    obtain ⟨kk, hkk⟩ : ∃ kk, kk = (rdP 256 l 0).1 := ⟨_, rfl⟩
    have eu : (uS l 0).1 = kk := by
      have : (rdP 256 l 0).1 = min (uS l 0).1 256 := rfl
      omega
    have hle := uS_enc l hl h1'
    rw [eu] at hle
    have el1 : (rdP 256 l 0).2 = ((uS l 0).2.1, 0) := by
      show (uS l 0).2 = _
      exact Prod.ext rfl h1'
    rw [← hkk, el1] at h
    obtain ⟨l1, hl1⟩ : ∃ l1, l1 = (uS l 0).2.1 := ⟨_, rfl⟩
    rw [← hl1] at h hle
    have hl1' : ∀ c ∈ l1, c < 256 := fun c hc => hl c (by rw [hle]; simp [hc])
    have hf2 : (partsS 256 (shp kk) (newI kk, l1, 0)).2.2 = 0 := by
      apply Classical.byContradiction
      intro hne
      have := loop_fail 256 n (partsS 256 (shp kk) (newI kk, l1, 0)).2.1 (partsS 256 (shp kk) (newI kk, l1, 0)).2.2 (acc ++ [(partsS 256 (shp kk) (newI kk, l1, 0)).1]) hne (by rw [h])
      rw [h] at this
      exact this rfl
    obtain ⟨hkind, _, hpe, hpk⟩ := parts_inv (cells := cells) (long := long) hf2 hl1'
    obtain ⟨q, hq⟩ : ∃ q, q = partsS 256 (shp kk) (newI kk, l1, 0) := ⟨_, rfl⟩
    have hsuf : q.2.1 <:+ l1 := by
      rw [hq]
      unfold partsS
      refine (stK_suf _ _).trans ?_
      unfold it3
      exact (stU_suf _ _ _ _).trans ((stU_suf _ _ _ _).trans ((stU_suf _ _ _ _).trans (stU_suf _ _ _ _)))
    rw [← hq] at h hf2 hkind hpe hpk
    rw [hf2] at h
    obtain ⟨new, h3, h4, h5, h6⟩ := loop_inv n q.2.1 0 (acc ++ [q.1]) acc' l' h (fun c hc => hl1' c (hsuf.mem hc))
    refine ⟨q.1 :: new, by rw [h3]; simp, by simp [h4], ?_, fun h7 => ?_⟩
    · intro x hx
      rcases List.mem_cons.1 hx with rfl | hx
      · exact hpk
      · exact h5 x hx
    · have h8 := hpe (h7 q.1 (by simp))
      have h9 := h6 (fun x hx => h7 x (by simp [hx]))
      have e : encAll (q.1 :: new) = encIns q.1 ++ encAll new := by simp [encAll]
      have e2 : encIns q.1 = encU kk ++ encPs (pairs (shp kk) q.1) ++ (if (shp kk).k then encU (zz q.1.k) else []) := by
        unfold encIns
        rw [hkind]
        simp
      rw [e, e2, hle, h8, h9]
      simp
/-- What is decoded of any bytes is encoded as just those. -/
theorem canon {b : List Nat} {cells : Int} (hb : ∀ c ∈ b, c < 256) (h : (decS 256 b cells).2 = 0) : (∀ x ∈ (decS 256 b cells).1, okI x.k) ∧ (checkV (decS 256 b cells).1 cells).2 = 0 ∧ encV (decS 256 b cells).1 = b := by
  unfold decS at h ⊢
  obtain ⟨n, hn⟩ : ∃ n, n = (countS b 0 1).1 := ⟨_, rfl⟩
  obtain ⟨l1, hl1⟩ : ∃ l1, l1 = (countS b 0 1).2.1 := ⟨_, rfl⟩
  obtain ⟨f1, hf1⟩ : ∃ f1, f1 = (countS b 0 1).2.2 := ⟨_, rfl⟩
  rw [← hn, ← hl1, ← hf1] at h ⊢
  have hcl : ∀ c ∈ l1, c < 256 := fun c hc => hb c ((by rw [hl1]; exact countS_suf b 0 1 : l1 <:+ b).mem hc)
  obtain ⟨r, hr⟩ : ∃ r, r = loopS 256 n l1 f1 [] := ⟨_, rfl⟩
  rw [← hr] at h ⊢
  unfold endS at h ⊢
  by_cases h1 : r.1 ≠ 0
  · rw [if_pos h1] at h; simp at h; omega
  rw [if_neg h1] at h ⊢
  by_cases h2 : endN r.2.2.1 r.2.2.2 ≠ 0
  · rw [if_pos h2] at h; simp at h; omega
  rw [if_neg h2] at h ⊢
  by_cases h3 : (checkV r.2.1 cells).2 ≠ 0
  · rw [if_pos h3] at h; simp at h; omega
  rw [if_neg h3]
  simp only at *
  have h1' : r.1 = 0 := by simpa using h1
  have h2' : r.2.2.2 = 0 ∧ r.2.2.1 = [] := by
    have : endN r.2.2.1 r.2.2.2 = 0 := by simpa using h2
    unfold endN at this
    split at this
    · cases this
    · rename_i h4
      refine ⟨this, ?_⟩
      rw [this] at h4
      simp at h4
      exact h4
  have h3' : (checkV r.2.1 cells).2 = 0 := by simpa using h3
  have er : loopS 256 n l1 f1 [] = (0, r.2.1, [], 0) := by
    rw [← hr]
    obtain ⟨r1, r2, r3, r4⟩ := r
    simp only at h1' h2'
    rw [h1', h2'.1, h2'.2]
  obtain ⟨hok, hlp, hlm⟩ := check_ok h3'
  obtain ⟨new, e1, e2, e3, e4⟩ := loop_inv (cells := cells) (long := r.2.1.length) n l1 f1 [] r.2.1 [] er hcl
  simp only [List.nil_append] at e1
  rw [e1] at hok h3' ⊢
  rw [e1] at e4
  have e5 := e4 hok
  refine ⟨e3, h3', ?_⟩
  -- the count
  have f0 : f1 = 0 := by
    apply Classical.byContradiction
    intro hne
    have := loop_fail 256 n l1 f1 [] hne (by rw [er])
    rw [er] at this
    exact this rfl
  have hc : countS b 0 1 = uS b 0 := by
    unfold countS at hf1 ⊢
    split
    · rename_i h5
      rw [if_pos h5] at hf1
      rw [f0] at hf1
      simp at hf1
      split at hf1
      · cases hf1
      · rename_i h6; exact absurd hf1.symm h6
    · rfl
  rw [hc] at hn hl1 hf1
  have := uS_enc b hb (by rw [← hf1]; exact f0)
  rw [← hn, ← hl1] at this
  unfold encV
  rw [this, e5, e2]
  simp
end Go.Proofs.Ytkocomnfomjfiaa
