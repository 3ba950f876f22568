/-
  Part Zk: ends that are alike but for the numbers of the new blocks: one of them stands for all.
-/
import Derived.Test.YtfmcnojojknkfaaOtZj
set_option linter.unusedVariables false
set_option linter.unusedSimpArgs false
namespace Go.Ot
open Go.RowKit

/-! ### values alike but for blocks' numbers (f: the number there of a number here) -/
def renA (f : Nat → Option Nat) (a b : Addr) : Bool := (match f a.block with | some x => Nat.beq x b.block | none => false) && Nat.beq a.off b.off && a.spot.isNone && b.spot.isNone
theorem renA_eq {f : Nat → Option Nat} {a b : Addr} (h : renA f a b = true) : f a.block = some b.block ∧ a.off = b.off ∧ a.spot = none ∧ b.spot = none := by
  simp only [renA, Bool.and_eq_true, Nat.beq_eq, Option.isNone_iff_eq_none] at h
  obtain ⟨⟨⟨h1, h2⟩, h3⟩, h4⟩ := h
  refine ⟨?_, h2, h3, h4⟩
  split at h1
  · rename_i x hx; rw [hx]; exact congrArg some (Nat.eq_of_beq_eq_true h1)
  · cases h1
def ren0 (f : Nat → Option Nat) (v u : Value) : Bool := match v with
  | .pointer (some a) => match u with | .pointer (some b) => renA f a b | _ => false
  | .slice (some a) n c => match u with | .slice (some b) n' c' => renA f a b && Nat.beq n n' && Nat.beq c c' | _ => false
  | .map (some m) => match u with | .map (some m') => (match f m with | some x => Nat.beq x m' | none => false) | _ => false
  | v => plain0 v && veq 10 v u
/-- How the numbers here stand to those there. -/
structure Down (c1 c2 : Cx) (f : Nat → Option Nat) : Prop where
  b1 : c1.B = 0
  b2 : c2.B = 0
  N : c1.N = c2.N
  d : ∀ b x, f b = some x → b < c1.n ∧ c1.ρ b = c2.ρ x
theorem ren0_sound {c1 c2 : Cx} {f : Nat → Option Nat} (D : Down c1 c2 f) {v u v' : Value} (h : ren0 f v u = true) (hr : r0 c2 u v') : r0 c1 v v' := by
  have plain : plain0 v = true → veq 10 v u = true → r0 c1 v v' := fun h1 h2 => by
    have := veq_eq h2
    subst this
    rw [plain0_eq h1 hr]
    exact plain0_self h1
  have addr : ∀ {a b : Addr}, renA f a b = true → c1.ok a ∧ c1.addr a = c2.addr b ∧ c1.ρ a.block = c2.ρ b.block ∧ a.off = b.off := fun {a b} h1 => by
    obtain ⟨e1, e2, e3, e4⟩ := renA_eq h1
    obtain ⟨d1, d2⟩ := D.d _ _ e1
    refine ⟨.inr ⟨d1, e3⟩, ?_, d2, e2⟩
    unfold Cx.addr
    rw [if_neg (by rw [D.b1]; omega), if_neg (by rw [D.b2]; omega), d2, e2]
  unfold ren0 at h
  split at h
  · rename_i a
    split at h
    · rename_i b
      obtain ⟨h1, h2, _, _⟩ := addr h
      exact ⟨h1, by rw [h2]; exact hr.2⟩
    · cases h
  · rename_i a n c
    split at h
    · rename_i b n' c'
      simp only [Bool.and_eq_true, Nat.beq_eq] at h
      obtain ⟨⟨h0, rfl⟩, rfl⟩ := h
      obtain ⟨h1, h2, h3, h4⟩ := addr h0
      obtain ⟨_, a', cap', g3, g4, g5, g6, g7⟩ := hr
      refine ⟨h1, a', cap', g3, g4, by rw [h2]; exact g5, fun hc => ?_, g7⟩
      obtain ⟨q1, q2, q3, q4⟩ := g6 hc
      exact ⟨by rw [D.b1]; omega, by rw [h4]; exact q2, by rw [h2]; exact q3, by rw [h3]; exact q4⟩
    · cases h
  · rename_i m
    split at h
    · rename_i m'
      have e : f m = some m' := by
        split at h
        · rename_i x hx; rw [hx]; exact congrArg some (Nat.eq_of_beq_eq_true h)
        · cases h
      obtain ⟨d1, d2⟩ := D.d _ _ e
      refine ⟨.inr d1, ?_⟩
      rw [hr.2]
      unfold Cx.mp
      rw [if_neg (by rw [D.b2]; omega), if_neg (by rw [D.b1]; omega), d2]
    · cases h
  · simp only [Bool.and_eq_true] at h
    exact plain h.1 h.2
def lRen (r : Value → Value → Bool) : List Value → List Value → Bool
  | [], [] => true
  | a :: l, b :: m => r a b && lRen r l m
  | _, _ => false
theorem lRen_sound {r : Value → Value → Bool} {R1 R2 : Value → Value → Prop} (hr : ∀ v u v', r v u = true → R2 u v' → R1 v v') : ∀ {l m l' : List Value}, lRen r l m = true → All2 R2 m l' → All2 R1 l l'
  | [], [], _, _, .nil => .nil
  | [], _ :: _, _, h, _ => by cases h
  | _ :: _, [], _, h, _ => by cases h
  | a :: l, b :: m, _, h, .cons x y => by
    simp only [lRen, Bool.and_eq_true] at h
    exact .cons (hr _ _ _ h.1 x) (lRen_sound hr h.2 y)
theorem lRen_len {r : Value → Value → Bool} : ∀ {l m : List Value}, lRen r l m = true → l.length = m.length
  | [], [], _ => rfl
  | [], _ :: _, h => by cases h
  | _ :: _, [], h => by cases h
  | a :: l, b :: m, h => by
    simp only [lRen, Bool.and_eq_true] at h
    simp [lRen_len h.2]
def ren1 (f : Nat → Option Nat) (v u : Value) : Bool := match v with
  | .iface t x => match u with
    | .iface t' y => Nat.beq t t' && (match y with | .agg _ => plainAgg x && veq 10 x y | _ => ren0 f x y)
    | _ => false
  | .func (.func g) p q => match u with | .func (.func g') p' q' => Nat.beq g g' && lRen (ren0 f) p.toList p'.toList && lRen (ren0 f) q.toList q'.toList | _ => false
  | .func _ _ _ => false
  | v => match u with | .iface _ _ => false | .func _ _ _ => false | u => ren0 f v u
theorem ren1_sound {c1 c2 : Cx} {f : Nat → Option Nat} (D : Down c1 c2 f) {v u v' : Value} (h : ren1 f v u = true) (hr : r1 c2 u v') : r1 c1 v v' := by
  unfold ren1 at h
  split at h
  · rename_i t x
    split at h
    · rename_i t' y
      rw [Bool.and_eq_true] at h
      obtain ⟨ht, h⟩ := h
      have := Nat.eq_of_beq_eq_true ht
      subst this
      obtain ⟨z, rfl, hz⟩ := hr
      refine ⟨z, rfl, ?_⟩
      split at h
      · rw [Bool.and_eq_true] at h
        have e := veq_eq h.2
        subst e
        rcases hz with hz | ⟨_, hzz⟩
        · exact hz.elim
        · exact .inr ⟨h.1, hzz⟩
      · rename_i hy
        rcases hz with hz | ⟨hz, _⟩
        · exact .inl (ren0_sound D h hz)
        · exfalso
          unfold plainAgg at hz
          split at hz
          · exact hy _ rfl
          · cases hz
    · cases h
  · rename_i g p q
    split at h
    · rename_i g' p' q'
      simp only [Bool.and_eq_true] at h
      obtain ⟨⟨hg, h1⟩, h2⟩ := h
      have := Nat.eq_of_beq_eq_true hg
      subst this
      obtain ⟨f', c', rfl, h3, h4⟩ := hr
      exact ⟨f', c', rfl, lRen_sound (R1 := r0 c1) (R2 := r0 c2) (fun _ _ _ => ren0_sound D) h1 h3, lRen_sound (R1 := r0 c1) (R2 := r0 c2) (fun _ _ _ => ren0_sound D) h2 h4⟩
    · cases h
  · cases h
  · rename_i n1 n2 n3
    split at h
    · cases h
    · cases h
    · rename_i m1 m2
      have hu : r0 c2 u v' := by
        cases u <;> first | exact hr | exact absurd rfl (m1 _ _) | exact absurd rfl (m2 _ _ _)
      have := ren0_sound D h hu
      cases v <;> first | exact this | exact absurd rfl (n1 _ _) | exact absurd rfl (n3 _ _ _)
def ren2 (f : Nat → Option Nat) (v u : Value) : Bool := match v with
  | .agg xs => match u with | .agg ys => lRen (ren1 f) xs.toList ys.toList | _ => false
  | v => (match u with | .agg _ => false | _ => true) && ren1 f v u
theorem ren2_sound {c1 c2 : Cx} {f : Nat → Option Nat} (D : Down c1 c2 f) {v u v' : Value} (h : ren2 f v u = true) (hr : r2 c2 u v') : r2 c1 v v' := by
  unfold ren2 at h
  split at h
  · split at h
    · obtain ⟨cs', rfl, h1⟩ := hr
      exact ⟨cs', rfl, lRen_sound (R1 := r1 c1) (R2 := r1 c2) (fun _ _ _ => ren1_sound D) h h1⟩
    · cases h
  · rename_i hx
    simp only [Bool.and_eq_true] at h
    have hu : r1 c2 u v' := by cases u <;> first | exact hr | simp at h
    have := ren1_sound D h.2 hu
    cases v <;> first | exact this | exact absurd rfl (hx _)
def ren3 (f : Nat → Option Nat) (v u : Value) : Bool := match v with
  | .tuple xs => match u with | .tuple ys => lRen (ren2 f) xs.toList ys.toList | _ => false
  | v => (match u with | .tuple _ => false | _ => true) && ren2 f v u
theorem ren3_sound {c1 c2 : Cx} {f : Nat → Option Nat} (D : Down c1 c2 f) {v u v' : Value} (h : ren3 f v u = true) (hr : r3 c2 u v') : r3 c1 v v' := by
  unfold ren3 at h
  split at h
  · split at h
    · obtain ⟨cs', rfl, h1⟩ := hr
      exact ⟨cs', rfl, lRen_sound (R1 := r2 c1) (R2 := r2 c2) (fun _ _ _ => ren2_sound D) h h1⟩
    · cases h
  · rename_i hx
    simp only [Bool.and_eq_true] at h
    have hu : r2 c2 u v' := by cases u <;> first | exact hr | simp at h
    have := ren2_sound D h.2 hu
    cases v <;> first | exact this | exact absurd rfl (hx _)
/-- An entry's cells. -/
def renM (f : Nat → Option Nat) (v u : Value) : Bool := match v with
  | .tuple xs => match u with
    | .tuple ys => match xs.toList, ys.toList with
      | [k, x, b], [k', x', b'] => veq 10 k k' && ren2 f x x' && veq 10 b b'
      | _, _ => false
    | _ => false
  | _ => false
theorem renM_sound {f : Nat → Option Nat} {v : Value} {e : MEnt} (h : renM f v (.tuple #[e.key, e.val, .int .i64 e.born]) = true) : ∃ x, v = .tuple #[e.key, x, .int .i64 e.born] ∧ ren2 f x e.val = true := by
  unfold renM at h
  split at h
  · rename_i xs
    simp only at h
    split at h
    · rename_i k x b k' x' b' h1 h2
      simp only [List.cons.injEq, and_true] at h2
      obtain ⟨rfl, rfl, rfl⟩ := h2
      simp only [Bool.and_eq_true] at h
      obtain ⟨⟨g1, g2⟩, g3⟩ := h
      have e1 := veq_eq g1
      have e3 := veq_eq g3
      subst e1 e3
      refine ⟨x, ?_, g2⟩
      congr 1
      apply Array.toList_inj.1
      rw [h1]
    · cases h
  · cases h
theorem renMs_sound {c1 c2 : Cx} {f : Nat → Option Nat} (D : Down c1 c2 f) : ∀ {es : List MEnt} {l : List Value} {es' : List MapEntry}, lRen (renM f) l (es.map (fun e => .tuple #[e.key, e.val, .int .i64 e.born])) = true → All2 (mEnt c2) es es' →
    ∃ es1 : List MEnt, l = es1.map (fun e => .tuple #[e.key, e.val, .int .i64 e.born]) ∧ All2 (mEnt c1) es1 es'
  | [], [], _, _, .nil => ⟨[], rfl, .nil⟩
  | [], _ :: _, _, h, _ => by cases h
  | _ :: _, [], _, h, _ => by cases h
  | e :: es, a :: l, _, h, .cons x y => by
    simp only [List.map_cons, lRen, Bool.and_eq_true] at h
    obtain ⟨u, rfl, hu⟩ := renM_sound h.1
    obtain ⟨es1, rfl, h2⟩ := renMs_sound D h.2 y
    exact ⟨⟨e.key, u, e.born⟩ :: es1, rfl, .cons ⟨x.1, x.2.1, x.2.2.1, ren2_sound D hu x.2.2.2⟩ h2⟩
/-- Two blocks alike. -/
def renB (f : Nat → Option Nat) (k u : Blk) : Bool := Nat.beq k.ty u.ty && Nat.beq k.sz u.sz && match k.sz with
  | _ + 1 => lRen (ren1 f) k.cells u.cells
  | 0 => match k.ty with
    | 0 => match k.cells, u.cells with
      | a :: l, b :: m => veq 10 a b && lRen (renM f) l m
      | _, _ => false
    | 1 => lEq (veq 10) k.cells u.cells
    | _ => match k.cells, u.cells with
      | a :: l, b :: m => ren0 f a b && (match a with | .map _ => true | _ => false) && lEq (veq 10) l m
      | _, _ => false
theorem renB_row {c1 c2 : Cx} {f : Nat → Option Nat} (D : Down c1 c2 f) {k u : Blk} {w : World} {g lim : Nat} (h : renB f k u = true) (h0 : 0 < k.sz) (hr : Row c2 w g lim u) : Row c1 w g lim k := by
  simp only [renB, Bool.and_eq_true, Nat.beq_eq] at h
  obtain ⟨⟨e1, e2⟩, h3⟩ := h
  obtain ⟨q1, q2, q3, cur, fz, q4, q5, q6, q7⟩ := hr
  split at h3
  · rename_i n hn
    exact ⟨by rw [D.N]; exact q1, q2, h0, cur, fz, by rw [e1]; exact q4, q5, by rw [e2]; exact q6, by rw [lRen_len h3]; exact lRen_sound (R1 := r1 c1) (R2 := r1 c2) (fun _ _ _ => ren1_sound D) h3 q7⟩
  · rename_i hn; omega
theorem renB_oth {c1 c2 : Cx} {f : Nat → Option Nat} (D : Down c1 c2 f) {k u : Blk} {w : World} {g : Nat} (h : renB f k u = true) (h0 : k.sz = 0) (hr : Oth c2 w g u) : Oth c1 w g k := by
  simp only [renB, Bool.and_eq_true, Nat.beq_eq] at h
  obtain ⟨⟨e1, e2⟩, h3⟩ := h
  obtain ⟨q1, q2, q3⟩ := hr
  refine ⟨by rw [D.N]; exact q1, h0, ?_⟩
  split at h3
  · rename_i n hn; omega
  · split at h3
    · rename_i _ ht
      rcases q3 with ⟨t, clock, es, es', g1, g2, g3⟩ | ⟨t, _⟩ | ⟨t, _⟩
      · rw [g1] at h3
        split at h3
        · rename_i a l b m hk hm
          simp only [mcells, List.cons.injEq] at hm
          obtain ⟨rfl, rfl⟩ := hm
          simp only [Bool.and_eq_true] at h3
          have e := veq_eq h3.1
          subst e
          obtain ⟨es1, rfl, h4⟩ := renMs_sound D h3.2 g3
          exact .inl ⟨ht, clock, es1, es', hk, g2, h4⟩
        · cases h3
      · rw [← e1, ht] at t; cases t
      · rw [← e1, ht] at t; cases t
    · rename_i _ ht
      rcases q3 with ⟨t, _⟩ | ⟨t, s, pos, g1, g2⟩ | ⟨t, _⟩
      · rw [← e1, ht] at t; cases t
      · exact .inr (.inl ⟨ht, s, pos, by rw [← g1]; exact lEq_eq (fun a b => veq_eq) h3, g2⟩)
      · rw [← e1, ht] at t; cases t
    · rename_i _ n1 n2
      rcases q3 with ⟨t, _⟩ | ⟨t, _⟩ | ⟨t, om, om', since, seen, last, g1, g2, g3⟩
      · exact absurd (e1.trans t) n1
      · exact absurd (e1.trans t) n2
      · rw [g1] at h3
        split at h3
        · rename_i a l b m hk hm
          simp only [icells, List.cons.injEq] at hm
          obtain ⟨rfl, rfl⟩ := hm
          simp only [Bool.and_eq_true] at h3
          obtain ⟨⟨p1, p2⟩, p3⟩ := h3
          have e := lEq_eq (fun a b => veq_eq) p3
          subst e
          split at p2
          · rename_i om1
            exact .inr (.inr ⟨e1.trans t, om1, om', since, seen, last, hk, ren0_sound D p1 g2, g3⟩)
          · cases p2
        · cases h3
/-- One end stands for another one. -/
def Iso (H : Heap) (v : Value) (H1 : Heap) (u : Value) (H2 : Heap) : Prop :=
  ∃ f : Nat → Option Nat, (∀ b, b < H.next → f b = some b) ∧ (∀ b x, f b = some x → b < H1.next) ∧ (∀ b b' x, (H1.blk b).isSome = true → (H1.blk b').isSome = true → f b = some x → f b' = some x → b = b') ∧
    (∀ b k, H1.blk b = some k → ∃ x k2, f b = some x ∧ H2.blk x = some k2 ∧ renB f k k2 = true) ∧ ren3 f v u = true
/-- A contract out of a body with regions of many orders: the end that is told stands for all ends. -/
theorem T_iso {P : Program} (hm : P.follows .mixedOrders = true) {f : FuncId} {n : Nat} {lc : LCode} {lr : List LRes} {args : List Value} (hL : LightX P f args.length n lc lr) {H H1 : Heap} {v : Value} (h0 : H.B = 0) (hb : H1.base = H.base) (hn : H.next ≤ H1.next) (hw : H1.WF)
    (h : wpA P lc (EndA (fun u H2 => Iso H v H1 u H2) lr) (initT args) H) : T P f args H v H1 := by
  refine ⟨hb, hn, fun _ => hw, ?_⟩
  intro ρ w args' hR hargs
  refine (calls_of_wpAX hm hL h hR hargs).mono ?_
  rintro en w' ⟨u, v', H2, ρ2, ⟨g, g1, g2, g3, g4, g5⟩, rfl, hb2, hle, hr, hR'⟩
  have hB1 : H1.B = 0 := by unfold Heap.B; rw [hb]; exact h0
  have hB2 : H2.B = 0 := by unfold Heap.B; rw [hb2]; exact h0
  have hN : H1.N = H2.N := by unfold Heap.N; rw [hb, hb2]
  obtain ⟨ρ1, hρ1⟩ : ∃ ρ1 : Nat → Nat × Nat, ρ1 = fun b => match g b with | some x => ρ2 x | none => (0, 0) := ⟨_, rfl⟩
  have e1 : ∀ b x, g b = some x → ρ1 b = ρ2 x := fun b x hx => by rw [hρ1]; simp only [hx]
  have D : Down (H1.cx ρ1) (H2.cx ρ2) g := ⟨hB1, hB2, hN, fun b x hx => ⟨g2 b x hx, e1 b x hx⟩⟩
  refine ⟨ρ1, v', rfl, ⟨by show H1.B = H.B; rw [hB1, h0], hn, fun b hx => ?_, by show H1.N = H.N; unfold Heap.N; rw [hb]⟩, ren3_sound D g5 hr, ?_⟩
  · show ρ1 b = ρ b
    rw [e1 b b (g1 b hx)]
    exact hle.ρ b hx
  · refine { below := ?_, lim := by rw [hB1]; exact Nat.zero_le _, next := by rw [hB1]; exact Nat.zero_le _, live := fun b k hk => ?_, row := fun b k hk hs => ?_, oth := fun b k hk hs => ?_, inj := fun b b' k k' hk hk' he => ?_ }
    · have := hR'.below
      rw [← hN, hb2, ← hb] at this
      exact this
    · obtain ⟨x, k2, hx, _, _⟩ := g4 b k hk
      exact ⟨by rw [hB1]; exact Nat.zero_le _, g2 b x hx⟩
    · obtain ⟨x, k2, hx, hk2, hren⟩ := g4 b k hk
      have hs2 : 0 < k2.sz := by
        simp only [renB, Bool.and_eq_true, Nat.beq_eq] at hren
        omega
      rw [e1 b x hx]
      exact renB_row D hren hs (hR'.row x k2 hk2 hs2)
    · obtain ⟨x, k2, hx, hk2, hren⟩ := g4 b k hk
      have hs2 : k2.sz = 0 := by
        simp only [renB, Bool.and_eq_true, Nat.beq_eq] at hren
        omega
      rw [e1 b x hx]
      exact renB_oth D hren hs (hR'.oth x k2 hk2 hs2)
    · obtain ⟨x, k2, hx, hk2, _⟩ := g4 b k hk
      obtain ⟨x', k2', hx', hk2', _⟩ := g4 b' k' hk'
      rw [e1 b x hx, e1 b' x' hx'] at he
      have := hR'.inj x x' k2 k2' hk2 hk2' he
      subst this
      exact g3 b b' x (by rw [hk]; rfl) (by rw [hk']; rfl) hx hx'
end Go.Ot
