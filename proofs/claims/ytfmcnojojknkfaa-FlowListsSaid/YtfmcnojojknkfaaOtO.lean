/-
  Part O: a region that draws its order: what was laid out in the order of the text holds in whatever order.
-/
import Derived.Test.YtfmcnojojknkfaaOtN
set_option linter.unusedVariables false
set_option linter.unusedSimpArgs false
namespace Go.Ot
open Go.RowKit

def isPure : LOp → Bool
  | .move _ | .pick _ _ _ | .build _ _ | .nilCheck _ | .bin _ _ _ | .isNil _ _ _ | .eqB _ _ _ | .un _ _ | .conv _ _ | .same _ | .arr _ _ | .iface _ _ | .func _ _ _
  | .slice _ _ _ _ _ | .sliceArr _ _ _ _ _ _ | .sliceStr _ _ _ | .off _ _ | .fld _ _ _ _ | .idx _ _ _ | .idxArr _ _ _ _ | .idxStr _ _ | .idxAgg _ _ _ _ _ | .extract _ _
  | .lenS _ | .len _ | .lenK _ | .minmax _ _ _ | .eqR _ _ _ _ | .assert _ _ _ _ => true
  | _ => false
def isRead : LOp → Bool
  | .load _ _ _ | .toStr _ | .lookup _ _ _ _ _ | .lenM _ => true
  | _ => false
theorem map_any {H H2 : Heap} {o : Option Value} {v : Value} (h : o.map (·, H) = some (v, H)) : o.map (·, H2) = some (v, H2) := by
  cases o <;> simp at h ⊢; exact h
theorem pure_any {P : Program} {t : Tm} {H H2 : Heap} {op : LOp} {v : Value} (hp : isPure op = true) (h : Do P t H op v H) : Do P t H2 op v H2 := by
  cases op <;> simp only [isPure] at hp <;> (try (cases hp; done)) <;> simp only [Do, step] at h ⊢ <;> (try exact map_any h)
  case move => cases h; rfl
  case pick =>
    split at h
    · cases h; rfl
    · cases h; rfl
    · cases h
  case build z ps => cases hf : fillA z (evParts t ps) <;> simp [hf] at h ⊢; exact h
  case isNil neq d x =>
    split at h
    · rename_i hc; rw [if_pos hc]
      cases hf : isNil (ev t x) <;> simp [hf] at h ⊢; exact h
    · cases h
  case eqB neq x y =>
    split at h
    · cases h; rfl
    · cases h
  case func fn f c =>
    split at h
    · rename_i hc; rw [if_pos hc]; cases h; rfl
    · cases h
  case lenS x => split at h; · cases h; rfl
                 · cases h
  case len x => split at h; · cases h; rfl
                · cases h
  case lenK => cases h; rfl
  case minmax mx x rest =>
    split at h
    · exact map_any h
    · cases h
  case eqR => exact ⟨trivial, h.2⟩

/-! ### the trace -/
def DOk (P : Program) (Hf : Nat → Heap) (m : Nat) (d : DIns) (c : Nat) (t : Tm) (v : Value) : Prop :=
  if wantedL d.ins.guard t then
    match d.kind with
    | .pure => ∀ k, k ≤ m → Do P t (Hf k) d.ins.op v (Hf k)
    | .read => ∀ k, d.lo ≤ k → k ≤ d.hi → k ≤ m → Do P t (Hf k) d.ins.op v (Hf k)
    | .heavy => Do P t (Hf c) d.ins.op v (Hf (c + 1))
  else v = undef ∧ (d.kind = .heavy → Hf (c + 1) = Hf c)
def hv (d : DIns) : Nat := if d.kind = .heavy then 1 else 0
def TraceOk (P : Program) (Hf : Nat → Heap) (m : Nat) : List DIns → Nat → Tm → List Value → Prop
  | [], c, t, [] => c = m
  | d :: rest, c, t, v :: vs => DOk P Hf m d c t v ∧ TraceOk P Hf m rest (c + hv d) (put t d.ins.dst v) vs
  | _, _, _, _ => False
def tAt : List DIns → List Value → Tm → Nat → Tm
  | d :: rest, v :: vs, t, k + 1 => tAt rest vs (put t d.ins.dst v) k
  | _, _, t, _ => t
def hAt : List DIns → Nat → Nat
  | d :: rest, k + 1 => hv d + hAt rest k
  | _, _ => 0
theorem trace_of {P : Program} {Q : Tm → Heap → Prop} : ∀ (ds : List DIns) (H : Heap) (hs : List Heap) (pend : List Pend) (t : Tm), (∀ d ∈ ds, d.kind = .pure → isPure d.ins.op = true) → wpD P ds (H :: hs) pend Q t →
    ∃ (Hf : Nat → Heap) (m : Nat) (vs : List Value), (∀ k, k ≤ hs.length → Hf k = (H :: hs).getD (hs.length - k) H) ∧ hs.length ≤ m ∧ TraceOk P Hf m ds hs.length t vs ∧
      (∀ p ∈ pend, ∀ k, hs.length < k → k ≤ m → k ≤ p.hi → Do P p.t (Hf k) p.op p.v (Hf k)) ∧ Q (tAt ds vs t ds.length) (Hf m)
  | [], H, hs, pend, t, _, h => by
    refine ⟨fun k => (H :: hs).getD (hs.length - k) H, hs.length, [], fun _ _ => rfl, Nat.le_refl _, rfl, fun p _ k h1 h2 _ => by omega, ?_⟩
    simp only [wpD] at h
    simpa [tAt] using h
  | d :: rest, H, hs, pend, t, hp, h => by
    have hp' : ∀ d ∈ rest, d.kind = .pure → isPure d.ins.op = true := fun d hd => hp d (by simp [hd])
    simp only [wpD] at h
    by_cases hg : wantedL d.ins.guard t = true
    · rw [if_pos hg] at h
      cases hk : d.kind <;> simp only [hk] at h
      · obtain ⟨v, h1, h2⟩ := h
        obtain ⟨Hf, m, vs, q1, q2, q3, q4, q5⟩ := trace_of rest H hs pend _ hp' h2
        refine ⟨Hf, m, v :: vs, q1, q2, ⟨?_, by simpa [hv, hk] using q3⟩, q4, by simpa [tAt] using q5⟩
        simp only [DOk, hg, if_true, hk]
        exact fun k _ => pure_any (hp d (by simp) hk) h1
      · obtain ⟨v, h1, h2, h3⟩ := h
        obtain ⟨Hf, m, vs, q1, q2, q3, q4, q5⟩ := trace_of rest H hs _ _ hp' h3
        refine ⟨Hf, m, v :: vs, q1, q2, ⟨?_, by simpa [hv, hk] using q3⟩, fun p hp k => q4 p (by simp [hp]) k, by simpa [tAt] using q5⟩
        simp only [DOk, hg, if_true, hk]
        intro k hlo hhi hm
        rcases Nat.lt_trichotomy k hs.length with hlt | heq | hgt
        · have e := q1 k (by omega)
          rw [e]
          have hj : hs.length - k = (hs.length - 1 - k) + 1 := by omega
          rw [hj]
          simp only [List.getD_cons_succ]
          have hlt2 : hs.length - 1 - k < hs.length := by omega
          have hmem : hs[hs.length - 1 - k] ∈ hs.take (hs.length - d.lo) := by
            rw [List.mem_take_iff_getElem]
            exact ⟨hs.length - 1 - k, by omega, rfl⟩
          have := h2 _ hmem
          rw [List.getD_eq_getElem?_getD, List.getElem?_eq_getElem hlt2]
          exact this
        · have e := q1 k (by omega)
          rw [e, heq]
          simpa using h1
        · exact q4 ⟨t, d.ins.op, v, d.hi⟩ (by simp) k hgt hm hhi
      · obtain ⟨v, H', h1, h2, h3⟩ := h
        obtain ⟨Hf, m, vs, q1, q2, q3, q4, q5⟩ := trace_of rest H' (H :: hs) pend _ hp' h3
        simp only [List.length_cons] at q1 q2 q3 q4
        have e0 : Hf hs.length = H := by
          rw [q1 _ (by omega)]
          have : hs.length + 1 - hs.length = 1 := by omega
          rw [this]; simp
        have e1 : Hf (hs.length + 1) = H' := by rw [q1 _ (Nat.le_refl _)]; simp
        refine ⟨Hf, m, v :: vs, ?_, by omega, ⟨?_, by simpa [hv, hk] using q3⟩, ?_, by simpa [tAt] using q5⟩
        · intro k hk2
          rw [q1 k (by omega)]
          have : hs.length + 1 - k = (hs.length - k) + 1 := by omega
          rw [this, List.getD_cons_succ]
          have hlt : hs.length - k < (H :: hs).length := by simp; omega
          rw [List.getD_eq_getElem?_getD, List.getD_eq_getElem?_getD, List.getElem?_eq_getElem hlt]
          rfl
        · simp only [DOk, hg, if_true, hk]
          rw [e0, e1]; exact h1
        · intro p hp k h4 h5 h6
          by_cases hk1 : k = hs.length + 1
          · subst hk1; rw [e1]; exact h2 p hp h6
          · exact q4 p hp k (by omega) h5 h6
    · rw [if_neg hg] at h
      have light : d.kind ≠ .heavy → wpD P rest (H :: hs) pend Q (put t d.ins.dst undef) → ∃ (Hf : Nat → Heap) (m : Nat) (vs : List Value), (∀ k, k ≤ hs.length → Hf k = (H :: hs).getD (hs.length - k) H) ∧ hs.length ≤ m ∧ TraceOk P Hf m (d :: rest) hs.length t vs ∧
      (∀ p ∈ pend, ∀ k, hs.length < k → k ≤ m → k ≤ p.hi → Do P p.t (Hf k) p.op p.v (Hf k)) ∧ Q (tAt (d :: rest) vs t (d :: rest).length) (Hf m) := by
        intro hk h
        obtain ⟨Hf, m, vs, q1, q2, q3, q4, q5⟩ := trace_of rest H hs pend _ hp' h
        refine ⟨Hf, m, undef :: vs, q1, q2, ⟨?_, by simpa [hv, hk] using q3⟩, q4, by simpa [tAt] using q5⟩
        simp only [DOk]
        rw [if_neg hg]
        exact ⟨trivial, fun h => absurd h hk⟩
      cases hk : d.kind <;> simp only [hk] at h
      · exact light (by rw [hk]; decide) h
      · exact light (by rw [hk]; decide) h
      · obtain ⟨h2, h⟩ := h
        obtain ⟨Hf, m, vs, q1, q2, q3, q4, q5⟩ := trace_of rest H (H :: hs) pend _ hp' h
        simp only [List.length_cons] at q1 q2 q3 q4
        have e0 : Hf hs.length = H := by
          rw [q1 _ (by omega)]
          have : hs.length + 1 - hs.length = 1 := by omega
          rw [this]; simp
        have e1 : Hf (hs.length + 1) = H := by rw [q1 _ (Nat.le_refl _)]; simp
        refine ⟨Hf, m, undef :: vs, ?_, by omega, ⟨?_, by simpa [hv, hk] using q3⟩, ?_, by simpa [tAt] using q5⟩
        · intro k hk2
          rw [q1 k (by omega)]
          have : hs.length + 1 - k = (hs.length - k) + 1 := by omega
          rw [this, List.getD_cons_succ]
        · simp only [DOk]
          rw [if_neg hg]
          exact ⟨trivial, fun _ => by rw [e0, e1]⟩
        · intro p hp k h4 h5 h6
          by_cases hk1 : k = hs.length + 1
          · subst hk1; rw [e1]; exact h2 p hp h6
          · exact q4 p hp k (by omega) h5 h6
end Go.Ot
