/-
  Chapter 8: what is encoded is decoded, and what is decoded is encoded: the plain law.
-/
import Derived.Test.YtkocomnfomjfiaaSeatAB
namespace Go.Proofs.Ytkocomnfomjfiaa
open Go.Ot Go.RowKit
set_option linter.unusedSimpArgs false
set_option linter.unusedVariables false
def smQ (q : Bool × Int) : Prop := q.1 = true → 0 ≤ q.2 ∧ q.2 ≤ 255
theorem one_parts {x : In} {cells long : Int} (h : oneV x cells long = 0) : valid x.kind = true ∧ c2V (shp x.kind) x = false ∧ c3V (shp x.kind) x = false ∧ c4V (shp x.kind) x = false ∧ c5V (shp x.kind) x cells = false := by
  unfold oneV at h
  cases hv : valid x.kind with
  | false => rw [if_pos hv] at h; cases h
  | true =>
    rw [if_neg (by simp [hv])] at h
    cases h2 : c2V (shp x.kind) x with
    | true => rw [if_pos h2] at h; cases h
    | false =>
      rw [if_neg (by simp [h2])] at h
      cases h3 : c3V (shp x.kind) x with
      | true => rw [if_pos h3] at h; cases h
      | false =>
        rw [if_neg (by simp [h3])] at h
        cases h4 : c4V (shp x.kind) x with
        | true => rw [if_pos h4] at h; cases h
        | false =>
          rw [if_neg (by simp [h4])] at h
          cases h5 : c5V (shp x.kind) x cells with
          | true => rw [if_pos h5] at h; cases h
          | false => exact ⟨rfl, rfl, rfl, rfl, rfl⟩
theorem sms {x : In} {cells long : Int} (h : oneV x cells long = 0) : ∀ q ∈ pairs (shp x.kind) x, smQ q := by
  obtain ⟨hv, h2, h3, h4, h5⟩ := one_parts h
  obtain ⟨s, hs⟩ : ∃ s, s = shp x.kind := ⟨_, rfl⟩
  rw [← hs] at h2 h3 h5 ⊢
  unfold c2V at h2
  unfold c3V badR at h3
  unfold c5V at h5
  simp only [Bool.or_eq_false_iff, Bool.and_eq_false_imp, decide_eq_false_iff_not] at h2 h3 h5
  intro q hq
  simp only [pairs, List.mem_cons, List.mem_nil_iff, or_false] at hq
  rcases hq with rfl | rfl | rfl | rfl <;> intro hh <;> simp only at hh ⊢
  · simp only [Bool.or_eq_true] at hh
    rcases hh with g | g
    · have := h2.2 g; omega
    · have := h2.1 g; omega
  · have := h3.1.1 hh; omega
  · have := h3.1.2 hh; omega
  · simp only [Bool.or_eq_true] at hh
    rcases hh with g | g
    · have := h3.2 g; omega
    · have := h5 g
      by_cases h44 : 4 < cells
      · rw [if_pos h44] at this; omega
      · rw [if_neg h44] at this; omega
theorem zeros {x : In} {cells long : Int} (h : oneV x cells long = 0) : ((shp x.kind).a = false → x.a = 0) ∧ ((shp x.kind).b = false → x.b = 0) ∧ (((shp x.kind).c || (shp x.kind).cell) = false → x.c = 0) ∧ ((shp x.kind).k = false → x.k = 0) ∧ (((shp x.kind).one || (shp x.kind).two) = false → x.op = 0) := by
  obtain ⟨hv, h2, h3, h4, h5⟩ := one_parts h
  obtain ⟨s, hs⟩ : ∃ s, s = shp x.kind := ⟨_, rfl⟩
  rw [← hs] at h4 ⊢
  obtain ⟨sa, sb, sc, sce, sk, st, so, stw⟩ := s
  revert h4
  cases sa <;> cases sb <;> cases sc <;> cases sce <;> cases sk <;> cases so <;> cases stw <;> first | (simp [c4V]; done) | (simp [c4V]; intros; simp [*])
/-! ### decoded as it was -/
theorem stU_of (has : Bool) (set : In → Int → In) (x : In) (v : Int) (r : List Nat) (hv : smQ (has, v)) : stU 256 has set (x, encP (has, v) ++ r, 0) = (if has then set x v else x, r, 0) := by
  cases has with
  | false => simp [stU, encP]
  | true =>
    have h := hv rfl
    simp only at h
    have e : encP (true, v) = encU v.toNat := rfl
    have e2 : rdP 256 (encU v.toNat ++ r) 0 = (v.toNat, r, 0) := by
      unfold rdP
      rw [uS_of (by omega)]
      simp only
      rw [Nat.min_eq_left (by omega)]
    rw [e]
    simp only [stU, e2, if_true]
    rw [show ((v.toNat : Nat) : Int) = v by omega]
theorem stK_of (has : Bool) (x : In) (k : Int) (r : List Nat) (hk : okI k) : stK has (x, (if has then encU (zz k) else []) ++ r, 0) = (if has then { x with k := k } else x, r, 0) := by
  cases has with
  | false => simp [stK]
  | true =>
    simp only [stK, if_true]
    rw [iS_of hk]
theorem parts_of {x : In} {cells long : Int} (h : oneV x cells long = 0) (hk : okI x.k) (r : List Nat) :
    partsS 256 (shp x.kind) (newI x.kind, encPs (pairs (shp x.kind) x) ++ (if (shp x.kind).k then encU (zz x.k) else []) ++ r, 0) = (x, r, 0) := by
  have hq := sms h
  have hz := zeros h
  obtain ⟨s, hs⟩ : ∃ s, s = shp x.kind := ⟨_, rfl⟩
  rw [← hs] at hq hz ⊢
  have e : encPs (pairs s x) = encP (s.one || s.two, x.op) ++ (encP (s.a, x.a) ++ (encP (s.b, x.b) ++ encP (s.c || s.cell, x.c))) := by simp [encPs, pairs]
  simp only [partsS, it3]
  rw [e]
  simp only [List.append_assoc]
  rw [stU_of _ _ _ _ _ (hq _ (by simp [pairs])), stU_of _ _ _ _ _ (hq _ (by simp [pairs])), stU_of _ _ _ _ _ (hq _ (by simp [pairs])), stU_of _ _ _ _ _ (hq _ (by simp [pairs])), stK_of _ _ _ _ hk]
  obtain ⟨sa, sb, sc, sce, sk, st, so, stw⟩ := s
  obtain ⟨xk, xo, xa, xb, xc, xkk⟩ := x
  simp only at hz ⊢
  obtain ⟨z1, z2, z3, z4, z5⟩ := hz
  congr 1
  generalize hcc : (sc || sce) = cc at *
  generalize hoo : (so || stw) = oo at *
  cases sa <;> cases sb <;> cases cc <;> cases sk <;> cases oo <;> simp_all [newI, setOp, setA, setB, setC]
theorem loop_of {cells long : Int} : ∀ (l : List In) (r : List Nat) (acc : List In), (∀ x ∈ l, oneV x cells long = 0) → (∀ x ∈ l, okI x.k) → loopS 256 l.length (encAll l ++ r) 0 acc = (0, acc ++ l, r, 0)
  | [], r, acc, _, _ => by simp [loopS, encAll]
  | x :: l, r, acc, h, hk => by
    have hx := h x (by simp)
    have hkx := hk x (by simp)
    obtain ⟨hv, _⟩ := one_parts hx
    have hr : 1 ≤ x.kind ∧ x.kind ≤ 13 := by simpa [valid] using hv
    have e : encAll (x :: l) ++ r = encU x.kind.toNat ++ (encPs (pairs (shp x.kind) x) ++ (if (shp x.kind).k then encU (zz x.k) else []) ++ (encAll l ++ r)) := by simp [encAll, encIns]
    have e2 : rdP 256 (encU x.kind.toNat ++ (encPs (pairs (shp x.kind) x) ++ (if (shp x.kind).k then encU (zz x.k) else []) ++ (encAll l ++ r))) 0 = (x.kind.toNat, encPs (pairs (shp x.kind) x) ++ (if (shp x.kind).k then encU (zz x.k) else []) ++ (encAll l ++ r), 0) := by
      unfold rdP
      rw [uS_of (by omega)]
      simp only
      rw [Nat.min_eq_left (by omega)]
    rw [e]
    simp only [List.length_cons, loopS, e2]
    rw [if_neg (by simp : ¬ (0 : Nat) ≠ 0), show ((x.kind.toNat : Nat) : Int) = x.kind by omega, if_neg (by simp [hv]), parts_of hx hkx]
    simp only
    rw [loop_of l r _ (fun y hy => h y (by simp [hy])) (fun y hy => hk y (by simp [hy]))]
    simp
theorem encAll_ge : ∀ l : List In, l.length ≤ (encAll l).length
  | [] => by simp [encAll]
  | x :: l => by
    have := encAll_ge l
    have h := encU_pos x.kind.toNat
    have e : (encAll (x :: l)).length = (encIns x).length + (encAll l).length := by simp [encAll]
    have e2 : (encU x.kind.toNat).length ≤ (encIns x).length := by simp [encIns]
    rw [e, List.length_cons]; omega
theorem back_of {l : List In} {cells : Int} (h : (checkV l cells).2 = 0) (hk : ∀ x ∈ l, okI x.k) : decS 256 (encV l) cells = (l, 0) := by
  obtain ⟨h1, h2, h3⟩ := check_ok h
  have hg := encAll_ge l
  unfold decS encV
  rw [countS_of (by omega) hg]
  simp only
  have := loop_of (cells := cells) (long := l.length) l [] [] h1 hk
  rw [List.append_nil] at this
  rw [this]
  simp only [endS, List.nil_append]
  rw [if_neg (by simp : ¬ (0 : Nat) ≠ 0), if_neg (by simp [endN]), if_neg (by simp [h])]
end Go.Proofs.Ytkocomnfomjfiaa
