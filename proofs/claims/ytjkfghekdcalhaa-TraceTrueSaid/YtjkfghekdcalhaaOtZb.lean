/-
  Part Zb: a call that changes one old block and answers a plain value: all that it has made besides is forgotten.
-/
import Derived.Test.YtjkfghekdcalhaaOtZa
set_option linter.unusedVariables false
set_option linter.unusedSimpArgs false
namespace Go.Ot
open Go.RowKit
theorem all1_pick {c c' : Cx} (h : c.le c') : ∀ {l m cs m' : List Value}, All2 (r1 c) l m → All2 (r1 c') cs m' → cs.length = l.length → (∀ (j : Nat) (v : Value), cs[j]? = some v → l[j]? = some v ∨ plain1 v = true) → All2 (r1 c) cs m'
  | _, _, _, _, .nil, .nil, _, _ => .nil
  | _, _, _, _, .nil, .cons _ _, hl, _ => by cases hl
  | _, _, _, _, .cons _ _, .nil, hl, _ => by cases hl
  | _, _, _, _, .cons a l, .cons b m, hl, hc => by
    refine .cons ?_ (all1_pick h l m (by simpa using hl) (fun j v hv => hc (j + 1) v hv))
    rcases hc 0 _ rfl with h0 | h0
    · simp only [List.getElem?_cons_zero, Option.some.injEq] at h0
      subst h0
      exact r1_down h a b
    · rw [plain1_eq h0 b]
      exact plain1_self h0
theorem Rep.backPut {H H' : Heap} {ρ ρ' : Nat → Nat × Nat} {w w' : World} (hR : Rep H ρ w) (hR' : Rep H' ρ' w') (hb : H'.base = H.base) (hle : (H.cx ρ).le (H'.cx ρ')) {p : Nat} {k0 : Blk} {cs : List Value} (hp : H.blk p = some k0) (hs : 0 < k0.sz) (hl : cs.length = k0.cells.length)
    (hc : ∀ (j : Nat) (v : Value), cs[j]? = some v → k0.cells[j]? = some v ∨ plain1 v = true) (hk : ∀ b, b < H.next → H'.blk b = (H.put p cs).blk b) : Rep (H.put p cs) ρ w' := by
  have hN : H'.N = H.N := by unfold Heap.N; rw [hb]
  have hlt : ∀ b k, H.blk b = some k → b < H.next := fun b k h => (hR.live b k h).2
  have hpp : (H.put p cs).blk p = some { k0 with cells := cs } := by simp [Heap.put, hp]
  have hpn : ∀ b, b ≠ p → (H.put p cs).blk b = H.blk b := fun b hb => by simp [Heap.put, hb]
  have hkp : H'.blk p = some { k0 with cells := cs } := by rw [hk p (hlt p _ hp), hpp]
  have hblk : ∀ b k, b ≠ p → H.blk b = some k → H'.blk b = some k := fun b k hn h => by rw [hk b (hlt b k h), hpn b hn]; exact h
  have hρ : ∀ b k, H.blk b = some k → ρ' b = ρ b := fun b k h => hle.ρ b (hlt b k h)
  have ex : ∀ b k, (H.put p cs).blk b = some k → ∃ k1, H.blk b = some k1 := fun b k h => by
    by_cases e : b = p
    · subst e; exact ⟨_, hp⟩
    · rw [hpn b e] at h; exact ⟨_, h⟩
  refine { below := ?_, lim := hR.lim, next := hR.next, live := fun b k h => ?_, row := ?_, oth := ?_, inj := fun b b' k k' h h' => ?_ }
  · have := hR'.below
    rw [hN, hb] at this
    exact this
  · obtain ⟨k1, h1⟩ := ex b k h
    exact hR.live b k1 h1
  · intro b k h h0
    by_cases e : b = p
    · subst e
      rw [hpp] at h
      cases h
      obtain ⟨p1, p2, p3, cur0, fz0, p4, p5, p6, p7⟩ := hR.row b k0 hp hs
      obtain ⟨q1, q2, q3, cur, fz, q4, q5, q6, q7⟩ := hR'.row b _ hkp h0
      rw [hρ b k0 hp] at q2 q4 q6
      exact ⟨p1, q2, q3, cur, fz, q4, q5, q6, all1_pick hle p7 q7 hl hc⟩
    · rw [hpn b e] at h
      obtain ⟨p1, p2, p3, cur0, fz0, p4, p5, p6, p7⟩ := hR.row b k h h0
      obtain ⟨q1, q2, q3, cur, fz, q4, q5, q6, q7⟩ := hR'.row b k (hblk b k e h) h0
      rw [hρ b k h] at q2 q4 q6
      exact ⟨p1, q2, q3, cur, fz, q4, q5, q6, all1_down hle p7 q7⟩
  · intro b k h h0
    by_cases e : b = p
    · subst e
      rw [hpp] at h
      cases h
      exact absurd h0 (by simp only; omega)
    · rw [hpn b e] at h
      obtain ⟨p1, p2, p3⟩ := hR.oth b k h h0
      obtain ⟨q1, q2, q3⟩ := hR'.oth b k (hblk b k e h) h0
      rw [hρ b k h] at q3
      refine ⟨p1, p2, ?_⟩
      rcases q3 with ⟨t, clock, es, es', e1, e2, e3⟩ | q3 | ⟨t, om, om', since, seen, last, e1, e2, e3⟩
      · rcases p3 with ⟨_, clock0, es0, es0', f1, _, f3⟩ | ⟨t1, _⟩ | ⟨t1, _⟩
        · have e : mdec (mcells clock es) = mdec (mcells clock0 es0) := by rw [← e1, ← f1]
          rw [mdec_mcells, mdec_mcells] at e
          cases e
          exact .inl ⟨t, clock, es, es', e1, e2, ents_down hle f3 e3⟩
        · rw [t] at t1; cases t1
        · rw [t] at t1; cases t1
      · exact .inr (.inl q3)
      · rcases p3 with ⟨t1, _⟩ | ⟨t1, _⟩ | ⟨_, om0, om0', since0, seen0, last0, f1, f2, f3⟩
        · rw [t] at t1; cases t1
        · rw [t] at t1; cases t1
        · have e : idec (icells om since seen last) = idec (icells om0 since0 seen0 last0) := by rw [← e1, ← f1]
          rw [idec_icells, idec_icells] at e
          cases e
          exact .inr (.inr ⟨t, om, om', since, seen, last, e1, r0_down hle f2 e2, e3⟩)
  · obtain ⟨k1, h1⟩ := ex b k h
    obtain ⟨k2, h2⟩ := ex b' k' h'
    exact hR.inj b b' k1 k2 h1 h2
/-- A contract out of a body with regions of many orders: one old block is written, all else is as it was. -/
theorem T_seenPut {P : Program} (hm : P.follows .mixedOrders = true) {f : FuncId} {n : Nat} {lc : LCode} {lr : List LRes} {args : List Value} (hL : LightX P f args.length n lc lr) {H : Heap} {v : Value} (hv : plain3 v = true) {p : Nat} {k0 : Blk} {cs : List Value} (hp : H.blk p = some k0) (hs : 0 < k0.sz) (hl : cs.length = k0.cells.length)
    (hc : ∀ (j : Nat) (v : Value), cs[j]? = some v → k0.cells[j]? = some v ∨ plain1 v = true)
    (h : wpA P lc (EndA (fun v1 H1 => v1 = v ∧ H.next ≤ H1.next ∧ ∀ b, b < H.next → H1.blk b = (H.put p cs).blk b) lr) (initT args) (rdy H)) : T P f args H v (H.put p cs) := by
  refine ⟨rfl, Nat.le_refl _, fun hw => ⟨hw.next, fun b k hb => ?_⟩, ?_⟩
  · by_cases e : b = p
    · subst e; exact hw.live b _ hp
    · have : (H.put p cs).blk b = H.blk b := by simp [Heap.put, e]
      rw [this] at hb; exact hw.live b k hb
  intro ρ w args' hR hargs
  refine (calls_of_wpAX hm hL h hR hargs).mono ?_
  rintro en w' ⟨v1, v', H1, ρ', ⟨rfl, hn, hk⟩, rfl, hb, hle, hr, hR'⟩
  have e : v' = v1 := r3_plain3_eq hv hr
  subst e
  exact ⟨ρ, v', rfl, Cx.le.refl _, plain3_self hv, hR.backPut hR' hb hle hp hs hl hc hk⟩
end Go.Ot
