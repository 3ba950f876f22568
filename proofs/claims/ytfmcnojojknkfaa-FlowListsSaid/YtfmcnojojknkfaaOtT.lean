/-
  Part T: how light code is reckoned by rewriting; heaps that are well formed; contracts of functions that change nothing.
-/
import Derived.Test.YtfmcnojojknkfaaOtS
set_option linter.unusedVariables false
set_option linter.unusedSimpArgs false
namespace Go.Ot
open Go.RowKit

theorem Rep.wf {H : Heap} {ρ : Nat → Nat × Nat} {w : World} (h : Rep H ρ w) : H.WF := ⟨h.next, fun b k hk => ⟨(h.live _ _ hk).1, (h.live _ _ hk).2⟩⟩

/-! ### what a heap holds -/
@[simp] theorem base_new (H : Heap) (ty sz : Nat) (cs : List Value) : (H.new ty sz cs).base = H.base := rfl
@[simp] theorem B_new (H : Heap) (ty sz : Nat) (cs : List Value) : (H.new ty sz cs).B = H.B := rfl
@[simp] theorem next_new (H : Heap) (ty sz : Nat) (cs : List Value) : (H.new ty sz cs).next = H.next + 1 := rfl
@[simp] theorem base_put (H : Heap) (b : Nat) (cs : List Value) : (H.put b cs).base = H.base := rfl
@[simp] theorem B_put (H : Heap) (b : Nat) (cs : List Value) : (H.put b cs).B = H.B := rfl
@[simp] theorem next_put (H : Heap) (b : Nat) (cs : List Value) : (H.put b cs).next = H.next := rfl
@[simp] theorem base_kill (H : Heap) (b : Nat) : (H.kill b).base = H.base := rfl
@[simp] theorem B_kill (H : Heap) (b : Nat) : (H.kill b).B = H.B := rfl
@[simp] theorem next_kill (H : Heap) (b : Nat) : (H.kill b).next = H.next := rfl
theorem blk_new (H : Heap) (ty sz : Nat) (cs : List Value) (b : Nat) : (H.new ty sz cs).blk b = if b = H.next then some ⟨ty, sz, cs⟩ else H.blk b := rfl
theorem blk_kill (H : Heap) (b c : Nat) : (H.kill b).blk c = if c = b then none else H.blk c := rfl
theorem blk_put (H : Heap) (b : Nat) (cs : List Value) (c : Nat) : (H.put b cs).blk c = if c = b then (H.blk b).map (fun k => { k with cells := cs }) else H.blk c := rfl
theorem load_own {H : Heap} {b off : Nat} {k : Blk} (hB : ¬ b < H.B) (hk : H.blk b = some k) (hz : 0 < k.sz := by first | exact Nat.succ_pos _ | assumption | (simp; done) | (simp; omega)) : H.load ⟨b, off, none⟩ = k.cells[off]? := by
  simp [Heap.load, hB, hk, hz]
theorem store_own {H : Heap} {b off : Nat} {k : Blk} {v : Value} (hB : ¬ b < H.B) (hk : H.blk b = some k) (hz : 0 < k.sz := by first | exact Nat.succ_pos _ | assumption | (simp; done) | (simp; omega)) : H.store ⟨b, off, none⟩ v = if off < k.cells.length then some (H.put b (k.cells.set off v)) else none := by
  simp [Heap.store, hB, hk, hz]
theorem WF_new {H : Heap} (h : H.WF) (ty sz : Nat) (cs : List Value) : (H.new ty sz cs).WF :=
  ⟨by simp; have := h.next; omega, fun b k hk => by
    rw [blk_new] at hk
    split at hk
    · rename_i e; cases hk; subst e; exact ⟨h.next, by simp⟩
    · obtain ⟨h1, h2⟩ := h.live b k hk; exact ⟨h1, by simp; omega⟩⟩
theorem WF_put {H : Heap} (h : H.WF) (b : Nat) (cs : List Value) : (H.put b cs).WF :=
  ⟨h.next, fun c k hk => by
    rw [blk_put] at hk
    split at hk
    · rename_i e; subst e
      cases hb : H.blk c with
      | none => simp [hb] at hk
      | some k0 => exact h.live c k0 hb
    · exact h.live c k hk⟩
theorem WF_kill {H : Heap} (h : H.WF) (b : Nat) : (H.kill b).WF :=
  ⟨h.next, fun c k hk => by
    rw [blk_kill] at hk
    split at hk
    · cases hk
    · exact h.live c k hk⟩
theorem add_own (b off k : Nat) : (⟨b, off, none⟩ : Addr).add k = ⟨b, off + k, none⟩ := by unfold Addr.add; split <;> simp_all

/-! ### the reckoning -/
def goV (o : Option Value) (K : Value → Prop) : Prop := match o with | some v => K v | none => False
def goS (o : Option (Value × Heap)) (K : Value → Heap → Prop) : Prop := match o with | some p => K p.1 p.2 | none => False
def goH (o : Option Heap) (K : Heap → Prop) : Prop := match o with | some p => K p | none => False
theorem goV_some (v : Value) (K : Value → Prop) : goV (some v) K = K v := rfl
theorem goS_some (v : Value) (H : Heap) (K : Value → Heap → Prop) : goS (some (v, H)) K = K v H := rfl
theorem goH_some (H : Heap) (K : Heap → Prop) : goH (some H) K = K H := rfl
theorem goV_ite (c : Prop) [Decidable c] (o : Option Value) (K : Value → Prop) : goV (if c then o else none) K = (c ∧ goV o K) := by
  by_cases h : c <;> simp [goV, h]
theorem goS_ite (c : Prop) [Decidable c] (o : Option (Value × Heap)) (K : Value → Heap → Prop) : goS (if c then o else none) K = (c ∧ goS o K) := by
  by_cases h : c <;> simp [goS, h]
theorem goH_ite (c : Prop) [Decidable c] (o : Option Heap) (K : Heap → Prop) : goH (if c then o else none) K = (c ∧ goH o K) := by
  by_cases h : c <;> simp [goH, h]
theorem goS_map (o : Option Value) (H : Heap) (K : Value → Heap → Prop) : goS (o.map (fun v => (v, H))) K = goV o (fun v => K v H) := by cases o <;> rfl
theorem goS_mapH (o : Option Heap) (v : Value) (K : Value → Heap → Prop) : goS (o.map (fun H => (v, H))) K = goH o (fun H => K v H) := by cases o <;> rfl

theorem ex_step {H : Heap} {t : Tm} {op : LOp} {K : Value → Heap → Prop} : (∃ v H', step H t op = some (v, H') ∧ K v H') ↔ goS (step H t op) K := by
  unfold goS
  cases step H t op with
  | none => simp
  | some p =>
    obtain ⟨v, H'⟩ := p
    constructor
    · rintro ⟨v1, H1, h1, h2⟩; cases h1; exact h2
    · intro h; exact ⟨v, H', rfl, h⟩
def isCall : LOp → Bool
  | .call _ _ | .callv _ _ | .invoke _ _ _ | .eqR _ _ _ _ => true
  | _ => false
theorem wpO_nil (P : Program) (Q : Tm → Heap → Prop) (t : Tm) (H : Heap) : wpO P [] Q t H = Q t H := rfl
theorem wpO_op {P : Program} {d : Option Nat} {op : LOp} {rest : List LIns} {Q : Tm → Heap → Prop} {t : Tm} {H : Heap} (h : isCall op = false) :
    wpO P (⟨d, op, none⟩ :: rest) Q t H = goS (step H t op) (fun v H' => wpO P rest Q (put t d v) H') := by
  rw [← ex_step]
  simp only [wpO, wantedL, if_true]
  cases op <;> first | rfl | cases h
theorem wpO_opg {P : Program} {d : Option Nat} {op : LOp} {s : Nat} {b : Bool} {rest : List LIns} {Q : Tm → Heap → Prop} {t : Tm} {H : Heap} (h : isCall op = false) :
    wpO P (⟨d, op, some (s, b)⟩ :: rest) Q t H = if wantedL (some (s, b)) t = true then goS (step H t op) (fun v H' => wpO P rest Q (put t d v) H') else wpO P rest Q (put t d undef) H := by
  rw [← ex_step]
  simp only [wpO]
  cases op <;> first | rfl | cases h
theorem wpO_call (P : Program) (d : Option Nat) (f : FuncId) (args : List Operand) (rest : List LIns) (Q : Tm → Heap → Prop) (t : Tm) (H : Heap) :
    wpO P (⟨d, .call f args, none⟩ :: rest) Q t H = ∃ v H', T P f (args.map (ev t)) H v H' ∧ wpO P rest Q (put t d v) H' := rfl
theorem wpO_callg (P : Program) (d : Option Nat) (f : FuncId) (args : List Operand) (s : Nat) (b : Bool) (rest : List LIns) (Q : Tm → Heap → Prop) (t : Tm) (H : Heap) :
    wpO P (⟨d, .call f args, some (s, b)⟩ :: rest) Q t H = if wantedL (some (s, b)) t = true then ∃ v H', T P f (args.map (ev t)) H v H' ∧ wpO P rest Q (put t d v) H' else wpO P rest Q (put t d undef) H := rfl
theorem wpO_callv (P : Program) (d : Option Nat) (x : Operand) (args : List Operand) (rest : List LIns) (Q : Tm → Heap → Prop) (t : Tm) (H : Heap) :
    wpO P (⟨d, .callv x args, none⟩ :: rest) Q t H = ∃ v H', TV P (ev t x) (args.map (ev t)) H v H' ∧ wpO P rest Q (put t d v) H' := rfl
theorem wpO_eqR (P : Program) (d : Option Nat) (neq : Bool) (xT : TypeId) (x y : Operand) (rest : List LIns) (Q : Tm → Heap → Prop) (t : Tm) (H : Heap) :
    wpO P (⟨d, .eqR neq xT x y, none⟩ :: rest) Q t H = ∃ v H', (H' = H ∧ EqR P t neq xT x y v) ∧ wpO P rest Q (put t d v) H' := rfl
theorem wpO_eqRg (P : Program) (d : Option Nat) (neq : Bool) (xT : TypeId) (x y : Operand) (s : Nat) (b : Bool) (rest : List LIns) (Q : Tm → Heap → Prop) (t : Tm) (H : Heap) :
    wpO P (⟨d, .eqR neq xT x y, some (s, b)⟩ :: rest) Q t H = if wantedL (some (s, b)) t = true then ∃ v H', (H' = H ∧ EqR P t neq xT x y v) ∧ wpO P rest Q (put t d v) H' else wpO P rest Q (put t d undef) H := rfl
theorem wantedL_bool {s : Nat} {b c : Bool} {t : Tm} (h : t s = .bool c) : wantedL (some (s, b)) t = (c == b) := by simp [wantedL, h]
theorem wantedL_eq (s : Nat) (b : Bool) (t : Tm) : wantedL (some (s, b)) t = match t s with | .bool c => c == b | _ => false := rfl
/-- Regions that draw. -/
theorem wpD_nil (P : Program) (H : Heap) (hs : List Heap) (pend : List Pend) (Q : Tm → Heap → Prop) (t : Tm) : wpD P [] (H :: hs) pend Q t = Q t H := rfl
theorem wpD_pure {P : Program} {d : Option Nat} {op : LOp} {lo hi : Nat} {rest : List DIns} {H : Heap} {hs : List Heap} {pend : List Pend} {Q : Tm → Heap → Prop} {t : Tm} (h : isCall op = false) (hp : ∀ v H', step H t op = some (v, H') → H' = H) :
    wpD P (⟨⟨d, op, none⟩, .pure, lo, hi⟩ :: rest) (H :: hs) pend Q t = goS (step H t op) (fun v _ => wpD P rest (H :: hs) pend Q (put t d v)) := by
  simp only [wpD, wantedL, if_true]
  have : (∃ v, Do P t H op v H ∧ wpD P rest (H :: hs) pend Q (put t d v)) ↔ goS (step H t op) (fun v _ => wpD P rest (H :: hs) pend Q (put t d v)) := by
    rw [← ex_step]
    have hd : ∀ v H', Do P t H op v H' ↔ step H t op = some (v, H') := by intro v H'; cases op <;> first | rfl | cases h
    constructor
    · rintro ⟨v, h1, h2⟩; exact ⟨v, H, (hd _ _).1 h1, h2⟩
    · rintro ⟨v, H', h1, h2⟩; have := hp _ _ h1; subst this; exact ⟨v, (hd _ _).2 h1, h2⟩
  exact propext this
theorem pure_same {H H' : Heap} {t : Tm} {op : LOp} {v : Value} (hp : isPure op = true) (h : step H t op = some (v, H')) : H' = H := by
  cases op <;> simp only [isPure] at hp <;> (try (cases hp; done)) <;> simp only [step] at h <;> (try exact map_pair (f := id) h)
  case move => cases h; rfl
  case pick => split at h <;> first | (cases h; rfl) | cases h
  case build z ps => cases hf : fillA z (evParts t ps) <;> simp [hf] at h; exact h.2.symm
  case isNil => split at h <;> first | exact map_pair h | cases h
  case eqB => split at h <;> first | (cases h; rfl) | cases h
  case func => split at h <;> first | (cases h; rfl) | cases h
  case lenS => split at h <;> first | (cases h; rfl) | cases h
  case len => split at h <;> first | (cases h; rfl) | cases h
  case lenK => cases h; rfl
  case minmax => split at h <;> first | exact map_pair (f := id) h | cases h
  case eqR => cases h
end Go.Ot
