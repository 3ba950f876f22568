/-
  Chapter 21: rows of calls; what a store holds behind them, plainly.
-/
import Derived.Test.YthclcdboialfnaaSeatQ
namespace Go.Proofs.Ythclcdboialfnaa
open Go.Ot Go.RowKit
set_option linter.unusedSimpArgs false
set_option linter.unusedVariables false
/-- A call. -/
structure Cl where
  k : Int
  w : Int
  g : Int
  v : Int
deriving DecidableEq, Inhabited
def orow (o : Cl) : List Value := [iv o.k, iv o.w, iv o.g, iv o.v]
abbrev Rc (H : Heap) (x : Value) (l : List Cl) : Prop := Rws H 4 x (l.map orow)
theorem Rc.len {H : Heap} {x : Value} {l : List Cl} (h : Rc H x l) : ∃ a c, x = .slice a l.length c := by
  obtain ⟨a, c, e⟩ := Rws.len h
  exact ⟨a, c, by simpa using e⟩
theorem Rc.on {H H1 : Heap} (hw : H.WF) {x : Value} {l : List Cl} (h : Rc H x l) (o : On H H1) : Rc H1 x l := Rws.keep hw o.base o.keep h
theorem Rc.get {H : Heap} {x : Value} {l : List Cl} (h : Rc H x l) {i : Nat} (hi : i < l.length) :
    ∃ b off c, x = .slice (some ⟨b, off, none⟩) l.length c ∧ H.loadN ⟨b, off + i * 4, none⟩ 0 4 = some (orow l[i]) := by
  obtain ⟨b, off, c, hx, h1, h2, h3⟩ := Rws.at h (i := i) (by simpa using hi)
  simp only [List.getElem_map] at h2 h3
  exact ⟨b, off, c, by simpa using hx, h2⟩
/-! ### the plain law -/
def isPut (o : Cl) (a : Nat) (g : Int) : Prop := o.k % 7 < 3 ∧ o.w = a ∧ o.g = g
def kills (o : Cl) (a : Nat) (g : Int) : Prop := o.g = g ∧ (o.k % 7 = 6 ∨ o.k % 7 = 5 ∧ o.w = a)
instance (o : Cl) (a : Nat) (g : Int) : Decidable (isPut o a g) := by unfold isPut; infer_instance
instance (o : Cl) (a : Nat) (g : Int) : Decidable (kills o a g) := by unfold kills; infer_instance
def stepC (W : Nat) (f : Nat → Int → Option Int) (o : Cl) : Nat → Int → Option Int :=
  if o.k % 7 < 3 then putF f W o.w o.g o.v else if o.k % 7 = 5 then dropF f W o.w o.g else if o.k % 7 = 6 then fun b g => if g = o.g then none else f b g else f
def play (W : Nat) (l : List Cl) : Nat → Nat → Int → Option Int
  | 0 => fun _ _ => none
  | i + 1 => stepC W (play W l i) (l.getD i default)
theorem step_put {W : Nat} {f : Nat → Int → Option Int} {o : Cl} {a : Nat} {g : Int} (ha : a < W) (hg : 0 ≤ g) (h : isPut o a g) : stepC W f o a g = some o.v := by
  obtain ⟨h1, h2, h3⟩ := h
  unfold stepC
  rw [if_pos h1]
  unfold putF
  rw [if_pos ⟨by omega, by omega, by omega, by omega, by omega⟩]
theorem step_kill {W : Nat} {f : Nat → Int → Option Int} {o : Cl} {a : Nat} {g : Int} (ha : a < W) (h : kills o a g) : stepC W f o a g = none := by
  obtain ⟨h1, h2⟩ := h
  unfold stepC
  rw [if_neg (by omega)]
  rcases h2 with h2 | ⟨h2, h3⟩
  · rw [if_neg (by omega), if_pos h2, if_pos h1.symm]
  · rw [if_pos h2]
    unfold dropF
    rw [if_pos ⟨by omega, by omega, by omega, by omega⟩]
theorem step_else {W : Nat} {f : Nat → Int → Option Int} {o : Cl} {a : Nat} {g : Int} (h1 : ¬ isPut o a g) (h2 : ¬ kills o a g) : stepC W f o a g = f a g := by
  unfold isPut at h1
  unfold kills at h2
  unfold stepC
  split
  · unfold putF
    rw [if_neg (by omega)]
  · split
    · unfold dropF
      rw [if_neg (by omega)]
    · split
      · show (if g = o.g then none else f a g) = _
        rw [if_neg (by omega)]
      · rfl
theorem step_neg {W : Nat} {f : Nat → Int → Option Int} {o : Cl} {a : Nat} {g : Int} (hg : g < 0) (h : f a g = none) : stepC W f o a g = none := by
  unfold stepC
  split
  · unfold putF
    rw [if_neg (by omega), h]
  · split
    · unfold dropF
      split
      · rfl
      · exact h
    · split
      · show (if g = o.g then none else f a g) = _
        split
        · rfl
        · exact h
      · exact h
theorem play_neg {W : Nat} {l : List Cl} {a : Nat} {g : Int} (hg : g < 0) : ∀ i, play W l i a g = none
  | 0 => rfl
  | i + 1 => step_neg hg (play_neg hg i)
/-- What a store holds: what was put last and not dropped since. -/
theorem play_iff {W : Nat} {l : List Cl} {a : Nat} {g v : Int} (ha : a < W) (hg : 0 ≤ g) : ∀ i, play W l i a g = some v ↔ ∃ j, j < i ∧ isPut (l.getD j default) a g ∧ (l.getD j default).v = v ∧ ∀ k, j < k → k < i → ¬ kills (l.getD k default) a g ∧ ¬ isPut (l.getD k default) a g
  | 0 => by simp [play]
  | i + 1 => by
    have ih := play_iff (l := l) (v := v) ha hg i
    rw [play]
    by_cases h1 : isPut (l.getD i default) a g
    · rw [step_put ha hg h1]
      constructor
      · intro e
        exact ⟨i, by omega, h1, Option.some.inj e, fun k _ _ => by omega⟩
      · rintro ⟨j, hj, _, hv, hk⟩
        by_cases e : j = i
        · rw [← e, hv]
        · exact absurd h1 (hk i (by omega) (by omega)).2
    · by_cases h2 : kills (l.getD i default) a g
      · rw [step_kill ha h2]
        constructor
        · intro e; cases e
        · rintro ⟨j, hj, hp, _, hk⟩
          by_cases e : j = i
          · rw [e] at hp; exact absurd hp h1
          · exact absurd h2 (hk i (by omega) (by omega)).1
      · rw [step_else h1 h2, ih]
        constructor
        · rintro ⟨j, hj, hp, hv, hk⟩
          refine ⟨j, by omega, hp, hv, fun k hk1 hk2 => ?_⟩
          by_cases e : k = i
          · rw [e]; exact ⟨h2, h1⟩
          · exact hk k hk1 (by omega)
        · rintro ⟨j, hj, hp, hv, hk⟩
          by_cases e : j = i
          · rw [e] at hp; exact absurd hp h1
          · exact ⟨j, by omega, hp, hv, fun k hk1 hk2 => hk k hk1 (by omega)⟩
/-- A put that counts still. -/
def live (l : List Cl) (a : Nat) (age : Int) (j : Nat) : Prop :=
  (l.getD j default).k % 7 < 3 ∧ (l.getD j default).w = a ∧ 0 ≤ (l.getD j default).g ∧ (l.getD j default).g < age ∧ ∀ k, j < k → k < l.length → ¬ kills (l.getD k default) a (l.getD j default).g
/-- What is found of the first so many. -/
structure Best (l : List Cl) (a : Nat) (age : Int) (i : Nat) (b v : Int) (f : Bool) : Prop where
  no : f = false → b = 0 ∧ v = 0 ∧ ∀ j, j < i → ¬ live l a age j
  yes : f = true → ∃ j, j < i ∧ live l a age j ∧ (l.getD j default).g = b ∧ (l.getD j default).v = v ∧ ∀ m, m < i → live l a age m → (l.getD m default).g ≤ b ∧ ((l.getD m default).g = b → m ≤ j)
theorem Best.skip {l : List Cl} {a : Nat} {age : Int} {i : Nat} {b v : Int} {f : Bool} (h : Best l a age i b v f) (hs : ¬ live l a age i ∨ f = true ∧ (l.getD i default).g < b) : Best l a age (i + 1) b v f := by
  refine ⟨fun e => ?_, fun e => ?_⟩
  · obtain ⟨h1, h2, h3⟩ := h.no e
    refine ⟨h1, h2, fun j hj => ?_⟩
    by_cases e2 : j = i
    · rw [e2]
      rcases hs with hs | hs
      · exact hs
      · rw [e] at hs; cases hs.1
    · exact h3 j (by omega)
  · obtain ⟨j, hj, h1, h2, h3, h4⟩ := h.yes e
    refine ⟨j, by omega, h1, h2, h3, fun m hm hl => ?_⟩
    by_cases e2 : m = i
    · rw [e2] at hl ⊢
      rcases hs with hs | hs
      · exact absurd hl hs
      · omega
    · exact h4 m (by omega) hl
theorem Best.take {l : List Cl} {a : Nat} {age : Int} {i : Nat} {b v : Int} {f : Bool} (h : Best l a age i b v f) (hl : live l a age i) (hs : f = true → b ≤ (l.getD i default).g) : Best l a age (i + 1) (l.getD i default).g (l.getD i default).v true := by
  refine ⟨fun e => (by cases e), fun _ => ⟨i, by omega, hl, rfl, rfl, fun m hm hm2 => ⟨?_, fun _ => by omega⟩⟩⟩
  by_cases e2 : m = i
  · rw [e2]; exact Int.le_refl _
  · cases hf : f with
    | false => exact absurd hm2 ((h.no hf).2.2 m (by omega))
    | true =>
      obtain ⟨j, hj, h1, h2, h3, h4⟩ := h.yes hf
      have := (h4 m (by omega) hm2).1
      have := hs hf
      omega
/-- The plain law. -/
theorem best_is {W : Nat} {l : List Cl} {a : Nat} {age : Int} (ha : a < W) {b v : Int} {f : Bool} (h : Best l a age l.length b v f) :
    (f = true → play W l l.length a b = some v ∧ b < age ∧ ∀ g, g < age → (play W l l.length a g).isSome = true → g ≤ b) ∧ (f = false → b = 0 ∧ v = 0 ∧ ∀ g, g < age → play W l l.length a g = none) := by
  have key : ∀ g, g < age → (play W l l.length a g).isSome = true → ∃ j, j < l.length ∧ live l a age j ∧ (l.getD j default).g = g := by
    intro g hg hs
    obtain ⟨w, hw⟩ := Option.isSome_iff_exists.1 hs
    by_cases h0 : 0 ≤ g
    · obtain ⟨j, hj, ⟨p1, p2, p3⟩, _, hk⟩ := (play_iff ha h0 _).1 hw
      exact ⟨j, hj, ⟨p1, p2, by omega, by omega, fun k h1 h2 => by rw [p3]; exact (hk k h1 h2).1⟩, p3⟩
    · rw [play_neg (by omega)] at hw
      cases hw
  refine ⟨fun e => ?_, fun e => ?_⟩
  · obtain ⟨j, hj, hl, rfl, rfl, hm⟩ := h.yes e
    refine ⟨(play_iff ha hl.2.2.1 _).2 ⟨j, hj, ⟨hl.1, hl.2.1, rfl⟩, rfl, fun k h1 h2 => ⟨hl.2.2.2.2 k h1 h2, fun hp => ?_⟩⟩, hl.2.2.2.1, fun g hg hs => ?_⟩
    · have hlk : live l a age k := ⟨hp.1, hp.2.1, by rw [hp.2.2]; exact hl.2.2.1, by rw [hp.2.2]; exact hl.2.2.2.1, fun q q1 q2 => by rw [hp.2.2]; exact hl.2.2.2.2 q (by omega) q2⟩
      have := (hm k h2 hlk).2 hp.2.2
      omega
    · obtain ⟨m, hm1, hm2, rfl⟩ := key g hg hs
      exact (hm m hm1 hm2).1
  · obtain ⟨h1, h2, h3⟩ := h.no e
    refine ⟨h1, h2, fun g hg => ?_⟩
    cases hp : play W l l.length a g with
    | none => rfl
    | some w =>
      obtain ⟨j, hj, hl, _⟩ := key g hg (by rw [hp]; rfl)
      exact absurd hl (h3 j hj)
end Go.Proofs.Ythclcdboialfnaa
