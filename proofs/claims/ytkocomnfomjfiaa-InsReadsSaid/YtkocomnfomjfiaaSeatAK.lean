/-
  Chapter 8: both readings of a text are alike: the plain law.
-/
import Derived.Test.YtkocomnfomjfiaaSeatAJ
namespace Go.Proofs.Ytkocomnfomjfiaa
open Go.Ot Go.RowKit
set_option linter.unusedSimpArgs false
set_option linter.unusedVariables false
def near (a b : Int) : Prop := a = b ∨ (256 ≤ a ∧ 256 ≤ b)
structure NearI (x y : In) : Prop where
  kind : x.kind = y.kind
  op : near x.op y.op
  a : near x.a y.a
  b : near x.b y.b
  c : near x.c y.c
  k : x.k = y.k
theorem near_min (u : Nat) : near ((min u 256 : Nat) : Int) ((min u 1000 : Nat) : Int) := by unfold near; omega
theorem stU_near {has : Bool} {set : In → Int → In} (hset : ∀ x y v w, NearI x y → near v w → NearI (set x v) (set y w)) {s s' : St} (h : NearI s.1 s'.1) (h2 : s.2 = s'.2) : NearI (stU 256 has set s).1 (stU 1000 has set s').1 ∧ (stU 256 has set s).2 = (stU 1000 has set s').2 := by
  obtain ⟨x, l, f⟩ := s
  obtain ⟨y, l', f'⟩ := s'
  simp only at h h2
  obtain ⟨rfl, rfl⟩ := Prod.mk.inj h2
  cases has with
  | false => exact ⟨h, rfl⟩
  | true => exact ⟨hset _ _ _ _ h (near_min _), rfl⟩
theorem stK_near {has : Bool} {s s' : St} (h : NearI s.1 s'.1) (h2 : s.2 = s'.2) : NearI (stK has s).1 (stK has s').1 ∧ (stK has s).2 = (stK has s').2 := by
  obtain ⟨x, l, f⟩ := s
  obtain ⟨y, l', f'⟩ := s'
  simp only at h h2
  obtain ⟨rfl, rfl⟩ := Prod.mk.inj h2
  cases has with
  | false => exact ⟨h, rfl⟩
  | true => exact ⟨⟨h.kind, h.op, h.a, h.b, h.c, rfl⟩, rfl⟩
theorem NearI.refl (x : In) : NearI x x := ⟨rfl, .inl rfl, .inl rfl, .inl rfl, .inl rfl, rfl⟩
theorem parts_near (h : Sh) {s s' : St} (hn : NearI s.1 s'.1) (h2 : s.2 = s'.2) : NearI (partsS 256 h s).1 (partsS 1000 h s').1 ∧ (partsS 256 h s).2 = (partsS 1000 h s').2 := by
  unfold partsS
  simp only [it3]
  obtain ⟨n1, e1⟩ := stU_near (has := h.one || h.two) (set := setOp) (fun x y v w h hv => ⟨h.kind, hv, h.a, h.b, h.c, h.k⟩) hn h2
  obtain ⟨n2, e2⟩ := stU_near (has := h.a) (set := setA) (fun x y v w h hv => ⟨h.kind, h.op, hv, h.b, h.c, h.k⟩) n1 e1
  obtain ⟨n3, e3⟩ := stU_near (has := h.b) (set := setB) (fun x y v w h hv => ⟨h.kind, h.op, h.a, hv, h.c, h.k⟩) n2 e2
  obtain ⟨n4, e4⟩ := stU_near (has := h.c || h.cell) (set := setC) (fun x y v w h hv => ⟨h.kind, h.op, h.a, h.b, hv, h.k⟩) n3 e3
  exact stK_near n4 e4
def NearL : List In → List In → Prop
  | [], [] => True
  | x :: l, y :: l' => NearI x y ∧ NearL l l'
  | _, _ => False
theorem NearL.app : ∀ {l l' : List In} {x y : In}, NearL l l' → NearI x y → NearL (l ++ [x]) (l' ++ [y])
  | [], [], x, y, _, h => ⟨h, trivial⟩
  | a :: l, b :: l', x, y, h, h2 => ⟨h.1, NearL.app h.2 h2⟩
  | [], _ :: _, x, y, h, _ => h.elim
  | _ :: _, [], x, y, h, _ => h.elim
theorem NearL.len : ∀ {l l' : List In}, NearL l l' → l.length = l'.length
  | [], [], _ => rfl
  | a :: l, b :: l', h => by simp [NearL.len h.2]
  | [], _ :: _, h => h.elim
  | _ :: _, [], h => h.elim
theorem loop_near : ∀ (n : Nat) (l : List Nat) (f : Nat) (acc acc' : List In), NearL acc acc' → (loopS 256 n l f acc).1 = (loopS 1000 n l f acc').1 ∧ (loopS 256 n l f acc).2.2 = (loopS 1000 n l f acc').2.2 ∧ NearL (loopS 256 n l f acc).2.1 (loopS 1000 n l f acc').2.1
  | 0, l, f, acc, acc', h => ⟨rfl, rfl, h⟩
  | n + 1, l, f, acc, acc', h => by
    have e : (rdP 256 l f).2 = (rdP 1000 l f).2 := rfl
    have hv : valid ((rdP 256 l f).1 : Int) = valid ((rdP 1000 l f).1 : Int) := by
      have h1 : (rdP 256 l f).1 = min (uS l f).1 256 := rfl
      have h2 : (rdP 1000 l f).1 = min (uS l f).1 1000 := rfl
      unfold valid
      rw [h1, h2]
      congr 1
      · congr 1; apply propext; omega
      · congr 1; apply propext; omega
    simp only [loopS]
    rw [← e, ← hv]
    by_cases h1 : (rdP 256 l f).2.2 ≠ 0
    · rw [if_pos h1, if_pos h1]
      exact ⟨rfl, rfl, trivial⟩
    rw [if_neg h1, if_neg h1]
    by_cases h2 : valid ((rdP 256 l f).1 : Int) = false
    · rw [if_pos h2, if_pos h2]
      exact ⟨rfl, rfl, trivial⟩
    rw [if_neg h2, if_neg h2]
    have hv2 : valid ((rdP 256 l f).1 : Int) = true := by simpa using h2
    have hr : 1 ≤ ((rdP 256 l f).1 : Int) ∧ ((rdP 256 l f).1 : Int) ≤ 13 := by simpa [valid] using hv2
    have ek : (rdP 1000 l f).1 = (rdP 256 l f).1 := by
      have h1 : (rdP 256 l f).1 = min (uS l f).1 256 := rfl
      have h2 : (rdP 1000 l f).1 = min (uS l f).1 1000 := rfl
      omega
    rw [ek]
    obtain ⟨n1, e1⟩ := parts_near (shp ((rdP 256 l f).1 : Int)) (s := (newI (rdP 256 l f).1, (rdP 256 l f).2)) (s' := (newI (rdP 256 l f).1, (rdP 256 l f).2)) (NearI.refl _) rfl
    rw [← e1]
    exact loop_near n _ _ _ _ (h.app n1)
theorem one_near {x y : In} (h : NearI x y) (cells long : Int) : oneV x cells long = oneV y cells long := by
  obtain ⟨xk, xo, xa, xb, xc, xkk⟩ := x
  obtain ⟨yk, yo, ya, yb, yc, ykk⟩ := y
  obtain ⟨h1, h2, h3, h4, h5, h6⟩ := h
  simp only at h1 h2 h3 h4 h5 h6
  subst h1 h6
  unfold near at h2 h3 h4 h5
  have lt : ∀ {a b : Int} (k : Int), k ≤ 256 → (a = b ∨ (256 ≤ a ∧ 256 ≤ b)) → decide (a < k) = decide (b < k) := fun k hk h => by congr 1; apply propext; omega
  have gt : ∀ {a b : Int} (k : Int), k < 256 → (a = b ∨ (256 ≤ a ∧ 256 ≤ b)) → decide (k < a) = decide (k < b) := fun k hk h => by congr 1; apply propext; omega
  have ge : ∀ {a b : Int} (k : Int), k ≤ 256 → (a = b ∨ (256 ≤ a ∧ 256 ≤ b)) → decide (k ≤ a) = decide (k ≤ b) := fun k hk h => by congr 1; apply propext; omega
  have nz : ∀ {a b : Int}, (a = b ∨ (256 ≤ a ∧ 256 ≤ b)) → decide (a ≠ 0) = decide (b ≠ 0) := fun h => by congr 1; apply propext; omega
  have hc4 : (if 4 < cells then 4 else cells) ≤ 256 := by split <;> omega
  have c2 : c2V (shp xk) ⟨xk, xo, xa, xb, xc, xkk⟩ = c2V (shp xk) ⟨xk, yo, ya, yb, yc, xkk⟩ := by unfold c2V; simp only; rw [lt 1 (by omega) h2, gt 18 (by omega) h2, lt 19 (by omega) h2, gt 21 (by omega) h2]
  have c3 : c3V (shp xk) ⟨xk, xo, xa, xb, xc, xkk⟩ = c3V (shp xk) ⟨xk, yo, ya, yb, yc, xkk⟩ := by unfold c3V badR; simp only; rw [lt 0 (by omega) h3, gt 15 (by omega) h3, lt 0 (by omega) h4, gt 15 (by omega) h4, lt 0 (by omega) h5, gt 15 (by omega) h5]
  have c4 : c4V (shp xk) ⟨xk, xo, xa, xb, xc, xkk⟩ = c4V (shp xk) ⟨xk, yo, ya, yb, yc, xkk⟩ := by unfold c4V; simp only; rw [nz h2, nz h3, nz h4, nz h5]
  have c5 : c5V (shp xk) ⟨xk, xo, xa, xb, xc, xkk⟩ cells = c5V (shp xk) ⟨xk, yo, ya, yb, yc, xkk⟩ cells := by unfold c5V; simp only; rw [lt 0 (by omega) h5, ge _ hc4 h5]
  unfold oneV
  simp only
  rw [c2, c3, c4, c5]
  rfl
theorem fst_near (cells long : Int) : ∀ {l l' : List In} (i : Nat), NearL l l' → fstBad cells long l i = fstBad cells long l' i
  | [], [], i, _ => rfl
  | x :: l, y :: l', i, h => by
    simp only [fstBad]
    rw [one_near h.1, fst_near cells long (i + 1) h.2]
  | [], _ :: _, i, h => h.elim
  | _ :: _, [], i, h => h.elim
theorem last_near : ∀ {l l' : List In}, NearL l l' → lastK l = lastK l'
  | [], [], _ => rfl
  | [x], [y], h => h.1.kind
  | x :: a :: l, y :: b :: l', h => by
    have := last_near (l := a :: l) (l' := b :: l') h.2
    simpa [lastK, List.getLast?_cons_cons] using this
  | [], _ :: _, h => h.elim
  | _ :: _, [], h => h.elim
  | [x], y :: b :: l', h => h.2.elim
  | x :: a :: l, [y], h => h.2.elim
theorem check_near {l l' : List In} (h : NearL l l') (cells : Int) : checkV l cells = checkV l' cells := by
  unfold checkV
  rw [← h.len, fst_near cells l.length 0 h, last_near h]
theorem near_eq {x y : In} (h : NearI x y) {cells long : Int} (ho : oneV x cells long = 0) : x = y := by
  have hs := sms ho
  obtain ⟨z1, z2, z3, z4, z5⟩ := zeros ho
  obtain ⟨sh, hsh⟩ : ∃ sh, sh = shp x.kind := ⟨_, rfl⟩
  rw [← hsh] at hs z1 z2 z3 z4 z5
  simp only [pairs, List.mem_cons, List.mem_nil_iff, or_false, forall_eq_or_imp, forall_eq] at hs
  obtain ⟨q1, q2, q3, q4⟩ := hs
  unfold smQ at q1 q2 q3 q4
  simp only at q1 q2 q3 q4
  have key : ∀ {has : Bool} {a b : Int}, (has = true → 0 ≤ a ∧ a ≤ 255) → (has = false → a = 0) → near a b → a = b := by
    intro has a b h1 h2 h3
    unfold near at h3
    cases has with
    | true => have := h1 rfl; omega
    | false => have := h2 rfl; omega
  obtain ⟨xk, xo, xa, xb, xc, xkk⟩ := x
  obtain ⟨yk, yo, ya, yb, yc, ykk⟩ := y
  obtain ⟨h1, h2, h3, h4, h5, h6⟩ := h
  simp only at *
  rw [h1, key q1 z5 h2, key q2 z1 h3, key q3 z2 h4, key q4 z3 h5, h6]
theorem nearL_eq {cells long : Int} : ∀ {l l' : List In}, NearL l l' → (∀ x ∈ l, oneV x cells long = 0) → l = l'
  | [], [], _, _ => rfl
  | x :: l, y :: l', h, ho => by rw [near_eq h.1 (ho x (by simp)), nearL_eq h.2 (fun z hz => ho z (by simp [hz]))]
  | [], _ :: _, h, _ => h.elim
  | _ :: _, [], h, _ => h.elim
theorem reads_alike (b : List Nat) (cells : Int) : decS 256 b cells = decS 1000 b cells := by
  unfold decS
  obtain ⟨e1, e2, h3⟩ := loop_near (countS b 0 1).1 (countS b 0 1).2.1 (countS b 0 1).2.2 [] [] trivial
  obtain ⟨r, hr⟩ : ∃ r, r = loopS 256 (countS b 0 1).1 (countS b 0 1).2.1 (countS b 0 1).2.2 [] := ⟨_, rfl⟩
  obtain ⟨r', hr'⟩ : ∃ r', r' = loopS 1000 (countS b 0 1).1 (countS b 0 1).2.1 (countS b 0 1).2.2 [] := ⟨_, rfl⟩
  rw [← hr, ← hr'] at e1 e2 h3 ⊢
  obtain ⟨r1, r2, r3⟩ := r
  obtain ⟨s1, s2, s3⟩ := r'
  simp only at e1 e2 h3
  subst e1 e2
  unfold endS
  simp only
  rw [check_near h3 cells]
  by_cases h1 : r1 ≠ 0
  · rw [if_pos h1, if_pos h1]
  rw [if_neg h1, if_neg h1]
  by_cases h2 : endN r3.1 r3.2 ≠ 0
  · rw [if_pos h2, if_pos h2]
  rw [if_neg h2, if_neg h2]
  by_cases h4 : (checkV s2 cells).2 ≠ 0
  · rw [if_pos h4, if_pos h4]
  rw [if_neg h4, if_neg h4]
  have h4' : (checkV r2 cells).2 = 0 := by rw [check_near h3 cells]; simpa using h4
  rw [nearL_eq h3 (check_ok h4').1]
end Go.Proofs.Ytkocomnfomjfiaa
