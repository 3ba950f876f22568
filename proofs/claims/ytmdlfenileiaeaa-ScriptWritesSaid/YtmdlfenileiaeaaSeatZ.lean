/-
  Chapter 25: in plain: a script's text; what is written is read as it was.
-/
import Derived.Test.YtmdlfenileiaeaaSeatY
import Derived.Test.YtmdlfenileiaeaaSeatU
namespace Go.Proofs.Ytmdlfenileiaeaa
open Go.Ot Go.RowKit
open Tx (decF decN decI)
set_option linter.unusedSimpArgs false
set_option linter.unusedVariables false
theorem decF_ok : ∀ (f u : Nat), u < 10 ^ f → 1 ≤ f → (∀ c ∈ decF f u, isD c = true) ∧ valOf (decF f u) = u ∧ decF f u ≠ [] ∧ (u ≠ 0 → (decF f u).head? ≠ some 48) ∧ (u = 0 → decF f u = [48])
  | 0, u, h, h1 => by omega
  | f + 1, u, h, _ => by
    have hmod : u % 10 < 10 := Nat.mod_lt _ (by decide)
    have hdig : isD (48 + u % 10) = true := by simp [isD]; omega
    by_cases hq : u / 10 = 0
    · have e : decF (f + 1) u = [48 + u % 10] := by simp [decF, hq]
      have hu : u % 10 = u := by omega
      rw [e]
      refine ⟨by intro c hc; rw [List.mem_singleton] at hc; rw [hc]; exact hdig, ?_, by simp, ?_, ?_⟩
      · have := valOf_snoc [] (48 + u % 10)
        simp only [List.nil_append] at this
        rw [this]
        simp [valOf]; omega
      · intro h0; simp; omega
      · intro h0; simp [h0]
    · have e : decF (f + 1) u = decF f (u / 10) ++ [48 + u % 10] := by simp only [decF]; rw [if_neg hq]
      have hf : 1 ≤ f := by
        rcases f with - | f
        · simp at h; omega
        · omega
      obtain ⟨i1, i2, i3, i4, i5⟩ := decF_ok f (u / 10) (by rw [Nat.pow_succ] at h; omega) hf
      rw [e]
      refine ⟨?_, ?_, by simp, ?_, ?_⟩
      · intro c hc
        rw [List.mem_append, List.mem_singleton] at hc
        rcases hc with hc | hc
        · exact i1 c hc
        · rw [hc]; exact hdig
      · rw [valOf_snoc, i2]; omega
      · intro h0
        have i4' := i4 hq
        cases hX : decF f (u / 10) with
        | nil => exact absurd hX i3
        | cons c X => rw [hX] at i4'; simpa using i4'
      · intro h0; omega
theorem decN_ok {u : Nat} (h : u < 2147483648) : (∀ c ∈ decN u, isD c = true) ∧ valOf (decN u) = u ∧ decN u ≠ [] ∧ numE (decN u) = 0 := by
  have h20 : u < 10 ^ 20 := by
    have : (10 : Nat) ^ 20 = 100000000000000000000 := by decide
    omega
  obtain ⟨i1, i2, i3, i4, i5⟩ := decF_ok 20 u h20 (by decide)
  refine ⟨i1, i2, i3, ?_⟩
  have hv : valOf (decN u) = u := i2
  unfold numE
  rw [if_neg, hv, if_pos (by omega)]
  rintro (h0 | ⟨h1, h2⟩)
  · exact i3 h0
  · by_cases hu : u = 0
    · have : decN u = [48] := i5 hu
      rw [this] at h2; simp at h2
    · exact i4 hu h1
/-! ### reading on -/
theorem drop_of {S X Y : List Nat} {a : Nat} (h : S.drop a = X ++ Y) : S.drop (a + X.length) = Y := by
  rw [← List.drop_drop, h, List.drop_left]
theorem getD_of {S X Y : List Nat} {a c : Nat} (h : S.drop a = c :: Y) : S.getD a 0 = c := by
  have : (S.drop a)[0]? = some c := by rw [h]; rfl
  rw [List.getElem?_drop, Nat.add_zero] at this
  rw [List.getD_eq_getElem?_getD, this]; rfl
theorem getD_end {S : List Nat} {a : Nat} (h : S.drop a = []) : S.getD a 0 = 0 := by
  have : S.length ≤ a := List.drop_eq_nil_iff.1 h
  rw [List.getD_eq_getElem?_getD, List.getElem?_eq_none this]; rfl
theorem takeWhile_of {p : Nat → Bool} {X Y : List Nat} (hX : ∀ c ∈ X, p c = true) (hY : ∀ c Y', Y = c :: Y' → p c = false) : (X ++ Y).takeWhile p = X := by
  induction X with
  | nil =>
    cases Y with
    | nil => rfl
    | cons c Y => simp [hY c Y rfl]
  | cons x X ih =>
    rw [List.cons_append, List.takeWhile_cons, if_pos (hX x (by simp)), ih (fun c hc => hX c (by simp [hc]))]
theorem run_of {p : Nat → Bool} {S X Y : List Nat} {a : Nat} (h : S.drop a = X ++ Y) (hX : ∀ c ∈ X, p c = true) (hY : ∀ c Y', Y = c :: Y' → p c = false) : run p S a = a + X.length := by
  unfold run
  rw [h, takeWhile_of hX hY]
theorem numAt_dec {S Y : List Nat} {a n : Nat} (h : S.drop a = decN n ++ Y) (hY : ∀ c Y', Y = c :: Y' → isD c = false) (hn : n < 2147483648) : numAt S a = some n ∧ run isD S a = a + (decN n).length := by
  obtain ⟨d1, d2, d3, d4⟩ := decN_ok hn
  refine ⟨?_, run_of h d1 hY⟩
  have : dsAt S a = decN n := by unfold dsAt; rw [h, takeWhile_of d1 hY]
  unfold numAt
  rw [this, d2, if_pos ⟨d4, hn⟩]
/-! ### the text -/
def entB (e : Ent) : List Nat := (if e.2 = true then [33] else []) ++ decN e.1.toNat
def grpB (e : Ent) (k : Nat) : List Nat := entB e ++ (if 1 < k then 42 :: decN k else [])
def sep (b : List Nat) : List Nat := if b = [] then [] else [32]
def badE (e : Ent) : Prop := e.1 < 0 ∨ 2147483647 < e.1
instance (e : Ent) : Decidable (badE e) := by unfold badE; infer_instance
def txt : List Ent → Nat → List Nat → Option (List Nat)
  | [], _, b => some b
  | e :: l, many, b => if badE e then none else if l.head? = some e then txt l (many + 1) b else txt l 0 (b ++ sep b ++ grpB e (many + 1))
def textP (l : List Ent) : Int × List Nat := if 40000 < l.length then (251, []) else match txt l 0 [] with
  | none => (250, [])
  | some b => if 8192 < b.length then (30, []) else (0, b)
theorem loop_grp {S Y pre : List Nat} {sub : Option (Nat → Res)} {f a k : Nat} {e : Ent} {l : List Ent} (hS : S.drop a = pre ++ grpB e k ++ Y) (hp : pre = [] ∨ pre = [32]) (hY : ∀ c Y', Y = c :: Y' → c = 32) (he : ¬ badE e) (hk : 1 ≤ k) (hl : l.length + k ≤ 40000) :
    loopI S sub (f + 1) a l = loopI S sub f (a + pre.length + (grpB e k).length) (l ++ List.replicate k e) := by
  unfold badE at he
  obtain ⟨n, hn⟩ : ∃ n, n = e.1.toNat := ⟨_, rfl⟩
  have en : ((n : Nat) : Int) = e.1 := by omega
  have hn31 : n < 2147483648 := by omega
  obtain ⟨d1, d2, d3, d4⟩ := decN_ok hn31
  obtain ⟨c0, D, hD⟩ : ∃ c0 D, decN n = c0 :: D := by
    cases h : decN n with
    | nil => exact absurd h d3
    | cons c D => exact ⟨c, D, rfl⟩
  have hc0 : isD c0 = true := d1 c0 (by rw [hD]; simp)
  have hc0' := hc0
  simp only [isD, Bool.and_eq_true, decide_eq_true_eq] at hc0'
  have hX : ∀ c ∈ pre, isB c = true := by
    rcases hp with rfl | rfl
    · simp
    · simp [isB]
  have hS1 : S.drop a = pre ++ (grpB e k ++ Y) := by rw [hS, List.append_assoc]
  have hfirst : ∀ c Y', grpB e k ++ Y = c :: Y' → isB c = false := by
    intro c Y' h
    unfold grpB entB at h
    rw [← hn, hD] at h
    by_cases hab : e.2 = true
    · rw [if_pos hab] at h
      simp at h
      obtain ⟨rfl, _⟩ := h
      decide
    · rw [if_neg hab] at h
      simp at h
      obtain ⟨rfl, _⟩ := h
      simp [isB]; omega
  have hrun := run_of hS1 hX hfirst
  have hS2 := drop_of hS1
  obtain ⟨a1, ha1⟩ : ∃ a1, a1 = a + pre.length := ⟨_, rfl⟩
  rw [← ha1] at hrun hS2
  rw [← ha1]
  -- behind the number
  have tail : ∀ a2 : Nat, S.drop a2 = decN n ++ ((if 1 < k then 42 :: decN k else []) ++ Y) → numAt S a2 = some n ∧ run isD S a2 = a2 + (decN n).length ∧
      repP S (a2 + (decN n).length) l [e] = .ok (l ++ List.replicate k e) (a2 + (decN n).length + (if 1 < k then 42 :: decN k else []).length) := by
    intro a2 h2
    have hnd : ∀ c Y', (if 1 < k then 42 :: decN k else []) ++ Y = c :: Y' → isD c = false := by
      intro c Y' h
      by_cases hk1 : 1 < k
      · rw [if_pos hk1] at h
        simp at h
        obtain ⟨rfl, _⟩ := h
        decide
      · rw [if_neg hk1] at h
        rw [hY c Y' h]; decide
    obtain ⟨q1, q2⟩ := numAt_dec h2 hnd hn31
    refine ⟨q1, q2, ?_⟩
    have h3 := drop_of h2
    obtain ⟨a3, ha3⟩ : ∃ a3, a3 = a2 + (decN n).length := ⟨_, rfl⟩
    rw [← ha3] at h3 ⊢
    have one1 : ∀ m, (List.replicate m [e]).flatten = List.replicate m e := by
      intro m
      induction m with
      | zero => rfl
      | succ m ih => rw [List.replicate_succ, List.flatten_cons, ih, List.replicate_succ]; rfl
    unfold repP
    by_cases hk1 : 1 < k
    · rw [if_pos hk1] at h3 ⊢
      have g1 : S.getD a3 0 = 42 := getD_of (X := []) h3
      have g2 : a3 < S.length := getD_pos g1 (by decide)
      rw [if_pos ⟨g2, g1⟩]
      have h4 : S.drop (a3 + 1) = decN k ++ Y := by
        have := drop_of (X := [42]) (Y := decN k ++ Y) h3
        simpa using this
      obtain ⟨q3, q4⟩ := numAt_dec h4 (fun c Y' h => by rw [hY c Y' h]; decide) (by omega)
      rw [q3]
      simp only
      unfold repGo
      rw [if_neg (by simp; omega), q4, one1]
      congr 1
      simp; omega
    · rw [if_neg hk1] at h3 ⊢
      have k1 : k = 1 := by omega
      have g1 : ¬ (a3 < S.length ∧ S.getD a3 0 = 42) := by
        rintro ⟨g1, g2⟩
        cases hYY : Y with
        | nil =>
          rw [hYY] at h3
          rw [getD_end h3] at g2
          cases g2
        | cons c Y' =>
          rw [hYY] at h3
          have := getD_of (X := []) h3
          rw [hY c Y' hYY] at this
          rw [this] at g2
          cases g2
      rw [if_neg g1]
      unfold repGo
      rw [if_neg (by simp; omega), one1, k1]
      rfl
  rw [loopI, hrun]
  unfold grpB entB at hS2
  rw [← hn] at hS2
  have hlen : (grpB e k).length = (if e.2 = true then [33] else []).length + (decN n).length + (if 1 < k then 42 :: decN k else []).length := by
    unfold grpB entB
    rw [List.length_append, List.length_append, hn]
  by_cases hab : e.2 = true
  · rw [if_pos hab] at hS2
    have h5 : S.drop a1 = 33 :: (decN n ++ ((if 1 < k then 42 :: decN k else []) ++ Y)) := by rw [hS2]; simp
    have g1 : S.getD a1 0 = 33 := getD_of (X := []) h5
    have h6 : S.drop (a1 + 1) = decN n ++ ((if 1 < k then 42 :: decN k else []) ++ Y) := drop_of (X := [33]) h5
    obtain ⟨q1, q2, q3⟩ := tail (a1 + 1) h6
    have hit : itemP S sub a1 = some (.ok [e] (a1 + 1 + (decN n).length)) := by
      unfold itemP
      rw [g1, if_neg (by decide), if_pos rfl]
      unfold numP
      rw [q1, q2]
      simp only
      have : ((n : Int), true) = e := by rw [en, ← hab]
      rw [this]
    rw [hit]
    simp only
    rw [q3]
    simp only
    rw [hlen, if_pos hab]
    congr 1
    simp; omega
  · rw [if_neg hab] at hS2
    have h5 : S.drop a1 = decN n ++ ((if 1 < k then 42 :: decN k else []) ++ Y) := by rw [hS2]; simp
    have h6 : S.drop a1 = c0 :: (D ++ ((if 1 < k then 42 :: decN k else []) ++ Y)) := by rw [h5, hD]; rfl
    have g1 : S.getD a1 0 = c0 := getD_of (X := []) h6
    obtain ⟨q1, q2, q3⟩ := tail a1 h5
    have hit : itemP S sub a1 = some (.ok [e] (a1 + (decN n).length)) := by
      unfold itemP
      rw [g1, if_neg (by omega), if_neg (by omega), if_pos hc0]
      unfold numP
      rw [q1, q2]
      simp only
      have : ((n : Int), false) = e := by
        rw [en]
        have : e.2 = false := by simpa using hab
        rw [← this]
      rw [this]
    rw [hit]
    simp only
    rw [q3]
    simp only
    rw [hlen, if_neg hab]
    congr 1
    simp; omega
def pend (many : Nat) : List Ent → List Ent
  | [] => []
  | e :: _ => List.replicate many e
theorem grpB_ne (e : Ent) (k : Nat) (he : ¬ badE e) : 1 ≤ (grpB e k).length := by
  unfold badE at he
  have := (decN_ok (u := e.1.toNat) (by omega)).2.2.1
  have := List.length_pos_iff.2 this
  unfold grpB entB
  simp only [List.length_append]
  omega
theorem back : ∀ (l : List Ent) (many : Nat) (b T : List Nat), txt l many b = some T → (l = [] → many = 0) →
    ∃ R, T = b ++ R ∧ (b ≠ [] → ∀ c R', R = c :: R' → c = 32) ∧
      ∀ (S : List Nat) (sub : Option (Nat → Res)) (a f : Nat) (acc : List Ent), S.drop a = R → a ≤ S.length → R.length < f → acc.length + many + l.length ≤ 40000 → loopI S sub f a acc = .ok (acc ++ pend many l ++ l) S.length
  | [], many, b, T, h, hm0 => by
    have : b = T := by simpa [txt] using h
    subst this
    refine ⟨[], by simp, fun _ c R' h => (by cases h), ?_⟩
    intro S sub a f acc hS ha hf hl
    have hal : a = S.length := by have := List.drop_eq_nil_iff.1 hS; omega
    subst hal
    rcases f with - | f
    · simp at hf
    · rw [loopI, run_stop (Nat.le_refl _)]
      have g := getD_end hS
      have hit : itemP S sub S.length = none := by
        unfold itemP
        rw [g, if_neg (by decide), if_neg (by decide), if_neg (by decide)]
      rw [hit]
      simp [pend]
  | e :: l, many, b, T, h, _ => by
    unfold txt at h
    by_cases he : badE e
    · rw [if_pos he] at h; cases h
    · rw [if_neg he] at h
      by_cases hh : l.head? = some e
      · rw [if_pos hh] at h
        obtain ⟨R, hT, h32, hR⟩ := back l (many + 1) b T h (fun e0 => by rw [e0] at hh; cases hh)
        refine ⟨R, hT, h32, ?_⟩
        intro S sub a f acc hS ha hf hl
        rw [hR S sub a f acc hS ha hf (by simp at hl ⊢; omega)]
        have hp : pend (many + 1) l = List.replicate (many + 1) e := by
          cases l with
          | nil => cases hh
          | cons e' l' =>
            have : e' = e := by simpa using hh
            subst this
            rfl
        rw [hp, List.replicate_succ']
        simp [pend]
      · rw [if_neg hh] at h
        obtain ⟨R, hT, h32, hR⟩ := back l 0 (b ++ sep b ++ grpB e (many + 1)) T h (fun _ => rfl)
        have hg := grpB_ne e (many + 1) he
        have hb1 : b ++ sep b ++ grpB e (many + 1) ≠ [] := by
          intro e0
          have := congrArg List.length e0
          rw [List.length_append, List.length_append, List.length_nil] at this; omega
        refine ⟨sep b ++ grpB e (many + 1) ++ R, by rw [hT]; simp, ?_, ?_⟩
        · intro hb c R' hc
          unfold sep at hc
          rw [if_neg hb] at hc
          simp at hc
          exact hc.1.symm
        · intro S sub a f acc hS ha hf hl
          rcases f with - | f
          · exact absurd hf (Nat.not_lt_zero _)
          · have hpre : sep b = [] ∨ sep b = [32] := by
              unfold sep; split
              · exact .inl rfl
              · exact .inr rfl
            rw [loop_grp hS hpre (h32 hb1) he (by omega) (by simp at hl; omega)]
            have hS2 : S.drop (a + (sep b ++ grpB e (many + 1)).length) = R := drop_of hS
            have hlen : a + (sep b).length + (grpB e (many + 1)).length = a + (sep b ++ grpB e (many + 1)).length := by simp; omega
            have hbound : a + (sep b ++ grpB e (many + 1)).length ≤ S.length := by
              have := congrArg List.length hS
              simp at this ⊢
              omega
            rw [hlen, hR S sub _ f _ hS2 hbound (by simp at hf ⊢; omega) (by simp at hl ⊢; omega)]
            rw [List.replicate_succ']
            have : pend 0 l = [] := by cases l <;> rfl
            rw [this]
            simp [pend]
theorem read_back {l : List Ent} {b : List Nat} (h : txt l 0 [] = some b) (hl : l.length ≤ 40000) (hb : b.length ≤ 8192) : ∃ a, parseP b = .ok l a := by
  obtain ⟨R, hT, _, hR⟩ := back l 0 [] b h (fun _ => rfl)
  have hRb : R = b := by simpa using hT.symm
  subst hRb
  have := hR R (some (items R 7)) 0 (R.length + 1) [] (by simp) (by omega) (by omega) (by simp; omega)
  have hp : pend 0 l = [] := by cases l <;> rfl
  rw [hp] at this
  simp only [List.nil_append] at this
  refine ⟨R.length, ?_⟩
  unfold parseP
  rw [if_neg (by omega)]
  have hit : items R 8 0 = .ok l R.length := this
  rw [hit]
  simp
end Go.Proofs.Ytmdlfenileiaeaa
