/-
  Part N: code: sequences, branches, blocks, loops; regions that draw their order; results; a contract out of a body.
-/
import Derived.Test.YtfmcnojojknkfaaOtM
set_option linter.unusedVariables false
set_option linter.unusedSimpArgs false
namespace Go.Ot
open Go.RowKit

inductive Kind where
  | pure | read | heavy
  deriving DecidableEq
structure DIns where
  ins : LIns
  kind : Kind
  lo : Nat
  hi : Nat
structure Pend where
  t : Tm
  op : LOp
  v : Value
  hi : Nat
/-- A region that draws its order: in the order of the text, with what must hold for any other order: whatever is read is the same ahead of each heavy operation that may be done first. -/
def wpD (P : Program) : List DIns → List Heap → List Pend → (Tm → Heap → Prop) → Tm → Prop
  | _, [], _, _, _ => False
  | [], H :: _, _, Q, t => Q t H
  | i :: rest, H :: hs, pend, Q, t =>
    if wantedL i.ins.guard t then
      match i.kind with
      | .pure => ∃ v, Do P t H i.ins.op v H ∧ wpD P rest (H :: hs) pend Q (put t i.ins.dst v)
      | .read => ∃ v, Do P t H i.ins.op v H ∧ (∀ H2 ∈ hs.take (hs.length - i.lo), Do P t H2 i.ins.op v H2) ∧ wpD P rest (H :: hs) (⟨t, i.ins.op, v, i.hi⟩ :: pend) Q (put t i.ins.dst v)
      | .heavy => ∃ v H', Do P t H i.ins.op v H' ∧ (∀ p ∈ pend, hs.length + 1 ≤ p.hi → Do P p.t H' p.op p.v H') ∧ wpD P rest (H' :: H :: hs) pend Q (put t i.ins.dst v)
    else match i.kind with
      | .heavy => (∀ p ∈ pend, hs.length + 1 ≤ p.hi → Do P p.t H p.op p.v H) ∧ wpD P rest (H :: H :: hs) pend Q (put t i.ins.dst undef)
      | _ => wpD P rest (H :: hs) pend Q (put t i.ins.dst undef)

/-- A tree of orders: light operations where they are settled, reads that may still be done, and each heavy one that may be the next. -/
inductive DT where
  | done
  | fail
  | stop
  | light (i : LIns) (r : DT)
  | again (i : LIns) (r : DT)
  | fork (i : LIns) (s r : DT)
def wpT (P : Program) : DT → (Tm → Heap → Prop) → Tm → Heap → Prop
  | .done, Q => Q
  | .fail, _ => fun _ _ => False
  | .stop, _ => fun _ _ => True
  | .light i r, Q => fun t H => if wantedL i.guard t then ∃ v, Do P t H i.op v H ∧ wpT P r Q (put t i.dst v) H else wpT P r Q (put t i.dst undef) H
  | .again i r, Q => fun t H => (if wantedL i.guard t then ∃ v, Do P t H i.op v H ∧ (match i.dst with | some s => t s = v | none => v = undef) else True) ∧ wpT P r Q t H
  | .fork i s r, Q => fun t H => (if wantedL i.guard t then ∃ v H', Do P t H i.op v H' ∧ wpT P s Q (put t i.dst v) H' else wpT P s Q (put t i.dst undef) H) ∧ wpT P r Q t H
inductive LCode where
  | skip
  | region (l : List LIns)
  | draw (l : List DIns)
  | alts (ls : List (List DIns))
  | tree (d : DT)
  | seq (a b : LCode)
  | cond (c : Operand) (a b : LCode)
  | block (id : Nat) (c : LCode)
  | loop (c : LCode)
  | exit (id : Nat)
  | ret
abbrev Post := Exit → Tm → Heap → Prop
def thenA (N : Tm → Heap → Prop) (Q : Post) : Post := fun e t H => match e with | .normal => N t H | e => Q e t H
def blockA (id : Nat) (Q : Post) : Post := fun e t H => match e with | .exit id' => if id' = id then Q .normal t H else Q (.exit id') t H | e => Q e t H
def iterA (f : Post → Tm → Heap → Prop) (Q : Post) : Nat → Tm → Heap → Prop
  | 0 => fun _ _ => False
  | k + 1 => f (thenA (iterA f Q k) Q)
def wpA (P : Program) : LCode → Post → Tm → Heap → Prop
  | .skip, Q => Q .normal
  | .region l, Q => wpO P l (Q .normal)
  | .draw l, Q => fun t H => wpD P l [H] [] (Q .normal) t
  | .alts ls, Q => fun t H => ∀ l ∈ ls, wpD P l [H] [] (Q .normal) t
  | .tree d, Q => wpT P d (Q .normal)
  | .seq a b, Q => wpA P a (thenA (wpA P b Q) Q)
  | .cond c a b, Q => fun t H => match ev t c with | .bool true => wpA P a Q t H | .bool false => wpA P b Q t H | _ => False
  | .block id c, Q => wpA P c (blockA id Q)
  | .loop c, Q => fun t H => ∃ k, iterA (wpA P c) Q k t H
  | .exit id, Q => Q (.exit id)
  | .ret, Q => Q .ret

/-! ### monotone -/
theorem wpO_mono {P : Program} {Q Q' : Tm → Heap → Prop} (h : ∀ t H, Q t H → Q' t H) : ∀ {l : List LIns} {t : Tm} {H : Heap}, wpO P l Q t H → wpO P l Q' t H
  | [], t, H, hq => h _ _ hq
  | i :: l, t, H, hq => by
    simp only [wpO] at hq ⊢
    split
    · rename_i hg; rw [if_pos hg] at hq
      obtain ⟨v, H', h1, h2⟩ := hq
      exact ⟨v, H', h1, wpO_mono h h2⟩
    · rename_i hg; rw [if_neg hg] at hq
      exact wpO_mono h hq
theorem wpD_mono {P : Program} {Q Q' : Tm → Heap → Prop} (h : ∀ t H, Q t H → Q' t H) : ∀ {l : List DIns} {hs : List Heap} {pend : List Pend} {t : Tm}, wpD P l hs pend Q t → wpD P l hs pend Q' t
  | [], [], _, _, hq => hq
  | _ :: _, [], _, _, hq => hq
  | [], H :: hs, pend, t, hq => h _ _ hq
  | i :: l, H :: hs, pend, t, hq => by
    simp only [wpD] at hq ⊢
    split
    · rename_i hg; rw [if_pos hg] at hq
      cases hk : i.kind <;> simp only [hk] at hq ⊢
      · obtain ⟨v, h1, h2⟩ := hq; exact ⟨v, h1, wpD_mono h h2⟩
      · obtain ⟨v, h1, h2, h3⟩ := hq; exact ⟨v, h1, h2, wpD_mono h h3⟩
      · obtain ⟨v, H', h1, h2, h3⟩ := hq; exact ⟨v, H', h1, h2, wpD_mono h h3⟩
    · rename_i hg; rw [if_neg hg] at hq
      cases hk : i.kind <;> simp only [hk] at hq ⊢
      · exact wpD_mono h hq
      · exact wpD_mono h hq
      · exact ⟨hq.1, wpD_mono h hq.2⟩
theorem wpT_mono {P : Program} {Q Q' : Tm → Heap → Prop} (h : ∀ t H, Q t H → Q' t H) : ∀ {d : DT} {t : Tm} {H : Heap}, wpT P d Q t H → wpT P d Q' t H := by
  intro d
  induction d with
  | done => intro t H hq; exact h _ _ hq
  | fail => intro t H hq; exact hq
  | stop => intro t H hq; exact hq
  | light i r ih =>
    intro t H hq
    simp only [wpT] at hq ⊢
    split
    · rename_i hg; rw [if_pos hg] at hq
      obtain ⟨v, h1, h2⟩ := hq
      exact ⟨v, h1, ih h2⟩
    · rename_i hg; rw [if_neg hg] at hq
      exact ih hq
  | again i r ih => intro t H hq; exact ⟨hq.1, ih hq.2⟩
  | fork i s r ihs ihr =>
    intro t H hq
    simp only [wpT] at hq ⊢
    refine ⟨?_, ihr hq.2⟩
    have hq := hq.1
    split
    · rename_i hg; rw [if_pos hg] at hq
      obtain ⟨v, H', h1, h2⟩ := hq
      exact ⟨v, H', h1, ihs h2⟩
    · rename_i hg; rw [if_neg hg] at hq
      exact ihs hq
theorem thenA_mono {N N' : Tm → Heap → Prop} {Q Q' : Post} (hN : ∀ t H, N t H → N' t H) (hQ : ∀ e t H, Q e t H → Q' e t H) : ∀ e t H, thenA N Q e t H → thenA N' Q' e t H := by
  intro e t H h
  cases e <;> simp only [thenA] at h ⊢ <;> first | exact hN _ _ h | exact hQ _ _ _ h
theorem blockA_mono {id : Nat} {Q Q' : Post} (hQ : ∀ e t H, Q e t H → Q' e t H) : ∀ e t H, blockA id Q e t H → blockA id Q' e t H := by
  intro e t H h
  cases e <;> simp only [blockA] at h ⊢ <;> (try exact hQ _ _ _ h)
  split
  · rename_i he; rw [if_pos he] at h; exact hQ _ _ _ h
  · rename_i he; rw [if_neg he] at h; exact hQ _ _ _ h
theorem wpA_mono {P : Program} {c : LCode} : ∀ {Q Q' : Post}, (∀ e t H, Q e t H → Q' e t H) → ∀ {t : Tm} {H : Heap}, wpA P c Q t H → wpA P c Q' t H := by
  induction c with
  | skip => intro Q Q' h t H hq; exact h _ _ _ hq
  | region l => intro Q Q' h t H hq; exact wpO_mono (h .normal) hq
  | draw l => intro Q Q' h t H hq; exact wpD_mono (h .normal) hq
  | alts ls => intro Q Q' h t H hq l hl; exact wpD_mono (h .normal) (hq l hl)
  | tree d => intro Q Q' h t H hq; exact wpT_mono (h .normal) hq
  | seq a b iha ihb => intro Q Q' h t H hq; exact iha (thenA_mono (fun _ _ => ihb h) h) hq
  | cond x a b iha ihb =>
    intro Q Q' h t H hq
    simp only [wpA] at hq ⊢
    split <;> rename_i hx <;> simp only [hx] at hq
    · exact iha h hq
    · exact ihb h hq
  | block id c ih => intro Q Q' h t H hq; exact ih (blockA_mono h) hq
  | loop c ih =>
    intro Q Q' h t H hq
    obtain ⟨k, hk⟩ := hq
    refine ⟨k, ?_⟩
    induction k generalizing t H with
    | zero => exact hk.elim
    | succ k ihk => exact ih (thenA_mono (fun _ _ => ihk) h) hk
  | exit id => intro Q Q' h t H hq; exact h _ _ _ hq
  | ret => intro Q Q' h t H hq; exact h _ _ _ hq
theorem iterA_succ {P : Program} {c : LCode} {Q : Post} : ∀ {k : Nat} {t : Tm} {H : Heap}, iterA (wpA P c) Q k t H → iterA (wpA P c) Q (k + 1) t H
  | 0, _, _, h => h.elim
  | k + 1, _, _, h => wpA_mono (thenA_mono (fun _ _ => iterA_succ) (fun _ _ _ h => h)) h
theorem iterA_le {P : Program} {c : LCode} {Q : Post} {k : Nat} {t : Tm} {H : Heap} (h : iterA (wpA P c) Q k t H) : ∀ {m : Nat}, k ≤ m → iterA (wpA P c) Q m t H := by
  intro m hm
  induction hm with
  | refl => exact h
  | step _ ih => exact iterA_succ ih
/-- A loop, by what holds ahead of each round and a number that falls. -/
theorem loop_rule {P : Program} {c : LCode} {Q : Post} (I : Nat → Tm → Heap → Prop) {n : Nat} {t : Tm} {H : Heap} (h0 : I n t H)
    (round : ∀ n t H, I n t H → wpA P c (thenA (fun t' H' => ∃ m, m < n ∧ I m t' H') Q) t H) : wpA P (.loop c) Q t H := by
  have key : ∀ n t H, I n t H → iterA (wpA P c) Q (n + 1) t H := by
    intro n
    induction n using Nat.strongRecOn with
    | _ n ih =>
      intro t H hI
      refine wpA_mono (thenA_mono ?_ (fun _ _ _ h => h)) (round n t H hI)
      rintro t' H' ⟨m, hm, hI'⟩
      exact iterA_le (ih m hm t' H' hI') hm
  exact ⟨n + 1, key n t H h0⟩

/-! ### the machine's loop -/
theorem wp_loop_at {P : Program} {c : Code} {Q : Exit → Act → World → Prop} (I : Nat → Act → World → Prop) {n : Nat} {a : Act} {w : World} (h0 : I n a w)
    (round : ∀ n a w, I n a w → c.wp P (Exit.then (fun a' w' => ∃ m, m < n ∧ I m a' w') Q) a w) : (Code.loop c).wp P Q a w := by
  intro b k cs
  have key : ∀ n a w, I n a w → ∃ e a' w', Q e a' w' ∧ Arrives P (lone (b.at a (.code c :: .inLoop c :: k)) cs w) b k cs e a' w' := by
    intro n
    induction n using Nat.strongRecOn with
    | _ n ih =>
      intro a w hI
      obtain ⟨e, a₁, w₁, hq, harr⟩ := round n a w hI b (.inLoop c :: k) cs
      cases e with
      | normal =>
        obtain ⟨m, hlt, hI₁⟩ := hq
        obtain ⟨e₂, a₂, w₂, hq₂, harr₂⟩ := ih m hlt a₁ w₁ hI₁
        exact ⟨e₂, a₂, w₂, hq₂, .of_steps (Steps.trans harr (.one step_inLoop)) harr₂⟩
      | exit id => exact ⟨_, a₁, w₁, hq, .pass (x := .inLoop c) rfl (fun _ _ => .inl (by simp)) harr⟩
      | goto l => exact ⟨_, a₁, w₁, hq, .pass (x := .inLoop c) rfl (fun _ _ => .inl (by simp)) harr⟩
      | ret => exact ⟨_, a₁, w₁, hq, .pass (x := .inLoop c) rfl (fun _ _ => .inl (by simp)) harr⟩
      | panic ch => exact ⟨_, a₁, w₁, hq, .pass (x := .inLoop c) rfl (fun _ _ => .inl (by simp)) harr⟩
      | outgrown => exact ⟨_, a₁, w₁, hq, .pass (x := .inLoop c) rfl (fun _ _ => .inl (by simp)) harr⟩
  obtain ⟨e, a', w', hq, harr⟩ := key n a w h0
  exact ⟨e, a', w', hq, .of_steps (.one step_loop) harr⟩
end Go.Ot
