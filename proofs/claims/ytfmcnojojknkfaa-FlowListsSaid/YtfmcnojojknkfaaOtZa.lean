/-
  Part Za: what a call has made besides its answer is forgotten.
-/
import Derived.Test.YtfmcnojojknkfaaOtZ
set_option linter.unusedVariables false
set_option linter.unusedSimpArgs false
namespace Go.Ot
open Go.RowKit

theorem addr_down {c c' : Cx} (h : c.le c') {a : Addr} (ha : c.ok a) : c'.addr a = c.addr a := h.addr ha
theorem r0_down {c c' : Cx} (h : c.le c') {v u v' : Value} (hu : r0 c v u) (hv : r0 c' v v') : r0 c v v' := by
  cases v with
  | pointer a => cases a with
    | none => exact hv
    | some a => exact ⟨hu.1, by rw [← h.addr hu.1]; exact hv.2⟩
  | slice a n cap => cases a with
    | none => exact hv
    | some a =>
      have hok := hu.1
      obtain ⟨_, a', cap', h3, h4, h5, h6, h7⟩ := hv
      refine ⟨hok, a', cap', h3, h4, by rw [← h.addr hok]; exact h5, ?_, h7⟩
      rw [h.B, h.addr hok] at h6
      intro hc
      obtain ⟨q1, q2, q3, q4⟩ := h6 hc
      exact ⟨q1, q2, q3, by rw [← h.ρ _ (hok.resolve_left q1).1]; exact q4⟩
  | map m => cases m with
    | none => exact hv
    | some m =>
      refine ⟨hu.1, ?_⟩
      rw [hv.2]
      unfold Cx.mp
      rw [h.B]
      by_cases hb : m < c.B
      · simp [hb]
      · simp only [hb, if_false]; rw [h.ρ _ (hu.1.resolve_left hb)]
  | _ => exact hv
theorem all0_down {c c' : Cx} (h : c.le c') : ∀ {l m m' : List Value}, All2 (r0 c) l m → All2 (r0 c') l m' → All2 (r0 c) l m'
  | _, _, _, .nil, .nil => .nil
  | _, _, _, .cons a l, .cons b m => .cons (r0_down h a b) (all0_down h l m)
theorem r1_down {c c' : Cx} (h : c.le c') {v u v' : Value} (hu : r1 c v u) (hv : r1 c' v v') : r1 c v v' := by
  cases v with
  | iface t v =>
    obtain ⟨x, _, hx⟩ := hu
    obtain ⟨y, hy, hr⟩ := hv
    refine ⟨y, hy, ?_⟩
    rcases hr with hr | hr
    · rcases hx with hx | ⟨hx, _⟩
      · exact .inl (r0_down h hx hr)
      · cases v <;> first | cases hx | exact hr.elim
    · exact .inr hr
  | func fn first captured =>
    obtain ⟨_, _, _, h1, h2⟩ := hu
    obtain ⟨f', c'', hy, hr, hr'⟩ := hv
    exact ⟨f', c'', hy, all0_down h h1 hr, all0_down h h2 hr'⟩
  | _ => simp only [r1] at hu hv ⊢; exact r0_down h hu hv
theorem all1_down {c c' : Cx} (h : c.le c') : ∀ {l m m' : List Value}, All2 (r1 c) l m → All2 (r1 c') l m' → All2 (r1 c) l m'
  | _, _, _, .nil, .nil => .nil
  | _, _, _, .cons a l, .cons b m => .cons (r1_down h a b) (all1_down h l m)
theorem r2_down {c c' : Cx} (h : c.le c') {v u v' : Value} (hu : r2 c v u) (hv : r2 c' v v') : r2 c v v' := by
  cases v with
  | agg cs => obtain ⟨_, _, h1⟩ := hu; obtain ⟨y, hy, hr⟩ := hv; exact ⟨y, hy, all1_down h h1 hr⟩
  | _ => simp only [r2] at hu hv ⊢; exact r1_down h hu hv
theorem ents_down {c c' : Cx} (h : c.le c') : ∀ {l : List MEnt} {m m' : List MapEntry}, All2 (mEnt c) l m → All2 (mEnt c') l m' → All2 (mEnt c) l m'
  | _, _, _, .nil, .nil => .nil
  | _, _, _, .cons a l, .cons b m => .cons ⟨b.1, b.2.1, b.2.2.1, r2_down h a.2.2.2 b.2.2.2⟩ (ents_down h l m)
/-- The old heap again, behind a call that has changed nothing of it. -/
theorem Rep.back {H H' : Heap} {ρ ρ' : Nat → Nat × Nat} {w w' : World} (hR : Rep H ρ w) (hR' : Rep H' ρ' w') (hb : H'.base = H.base) (hle : (H.cx ρ).le (H'.cx ρ')) (hk : ∀ b, b < H.next → H'.blk b = H.blk b) : Rep H ρ w' := by
  have hN : H'.N = H.N := by unfold Heap.N; rw [hb]
  have hlt : ∀ b k, H.blk b = some k → b < H.next := fun b k h => (hR.live b k h).2
  have hblk : ∀ b k, H.blk b = some k → H'.blk b = some k := fun b k h => by rw [hk b (hlt b k h)]; exact h
  have hρ : ∀ b k, H.blk b = some k → ρ' b = ρ b := fun b k h => hle.ρ b (hlt b k h)
  refine { below := ?_, lim := hR.lim, next := hR.next, live := hR.live, row := ?_, oth := ?_, inj := hR.inj }
  · have := hR'.below
    rw [hN, hb] at this
    exact this
  · intro b k h h0
    obtain ⟨p1, p2, p3, cur0, fz0, p4, p5, p6, p7⟩ := hR.row b k h h0
    obtain ⟨q1, q2, q3, cur, fz, q4, q5, q6, q7⟩ := hR'.row b k (hblk b k h) h0
    rw [hρ b k h] at q2 q4 q6
    exact ⟨p1, q2, q3, cur, fz, q4, q5, q6, all1_down hle p7 q7⟩
  · intro b k h h0
    obtain ⟨p1, p2, p3⟩ := hR.oth b k h h0
    obtain ⟨q1, q2, q3⟩ := hR'.oth b k (hblk b k h) h0
    rw [hρ b k h] at q3
    refine ⟨p1, p2, ?_⟩
    rcases q3 with ⟨t, clock, es, es', e1, e2, e3⟩ | q3 | ⟨t, om, om', since, seen, last, e1, e2, e3⟩
    · rcases p3 with ⟨_, clock0, es0, es0', f1, _, f3⟩ | ⟨t1, _⟩ | ⟨t1, _⟩
      · have e : mdec (mcells clock es) = mdec (mcells clock0 es0) := by rw [← e1, ← f1]
        rw [mdec_mcells, mdec_mcells] at e
        cases e
        exact .inl ⟨t, clock, es, es', e1, e2, ents_down hle f3 e3⟩
      · rw [t] at t1; cases t1
      · rw [t] at t1; cases t1
    · exact .inr (.inl q3)
    · rcases p3 with ⟨t1, _⟩ | ⟨t1, _⟩ | ⟨_, om0, om0', since0, seen0, last0, f1, f2, f3⟩
      · rw [t] at t1; cases t1
      · rw [t] at t1; cases t1
      · have e : idec (icells om since seen last) = idec (icells om0 since0 seen0 last0) := by rw [← e1, ← f1]
        rw [idec_icells, idec_icells] at e
        cases e
        exact .inr (.inr ⟨t, om, om', since, seen, last, e1, r0_down hle f2 e2, e3⟩)
theorem T_forget {P : Program} {f : FuncId} {args : List Value} {H H' : Heap} {v : Value} (h : T P f args H v H') (hk : ∀ b, b < H.next → H'.blk b = H.blk b) (hv : plain3 v = true) : T P f args H v H := by
  refine ⟨rfl, Nat.le_refl _, id, ?_⟩
  intro ρ w args' hR hargs
  refine (h.2.2.2 ρ w args' hR hargs).mono ?_
  rintro en w' ⟨ρ', v', rfl, hle, hr, hR'⟩
  have e : v' = v := r3_plain3_eq hv hr
  subst e
  exact ⟨ρ, v', rfl, Cx.le.refl _, plain3_self hv, hR.back hR' h.1 hle hk⟩
/-- A contract out of a body: what is answered is plain, and nothing that was there changes: the heap may stay as it was. -/
theorem T_seen {P : Program} (hm : P.follows .mixedOrders = true) {f : FuncId} {n : Nat} {lc : LCode} {lr : List LRes} {args : List Value} (hL : Light P f args.length n lc lr) {H : Heap} {v : Value} (hv : plain3 v = true)
    (h : wpA P lc (EndA (fun v1 H1 => v1 = v ∧ ∀ b, b < H.next → H1.blk b = H.blk b) lr) (initT args) (rdy H)) : T P f args H v H := by
  obtain ⟨v1, H1, h1, rfl, h2⟩ := T_ex hm hL h
  exact T_forget h1 h2 hv
/-- The same out of a body with regions of many orders. -/
theorem T_seenX {P : Program} (hm : P.follows .mixedOrders = true) {f : FuncId} {n : Nat} {lc : LCode} {lr : List LRes} {args : List Value} (hL : LightX P f args.length n lc lr) {H : Heap} {v : Value} (hv : plain3 v = true)
    (h : wpA P lc (EndA (fun v1 H1 => v1 = v ∧ H.next ≤ H1.next ∧ ∀ b, b < H.next → H1.blk b = H.blk b) lr) (initT args) (rdy H)) : T P f args H v H := by
  refine ⟨rfl, Nat.le_refl _, id, ?_⟩
  intro ρ w args' hR hargs
  refine (calls_of_wpAX hm hL h hR hargs).mono ?_
  rintro en w' ⟨v1, v', H1, ρ', ⟨rfl, hn, hk⟩, rfl, hb, hle, hr, hR'⟩
  have e : v' = v1 := r3_plain3_eq hv hr
  subst e
  exact ⟨ρ, v', rfl, Cx.le.refl _, plain3_self hv, hR.back hR' hb hle hk⟩
end Go.Ot
