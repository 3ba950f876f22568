/-
  Part C: the operations, one by one: what each does to abstract values and heaps, and that the machine does the same.
-/
import Derived.Test.YtfmcnojojknkfaaOtB
set_option linter.unusedVariables false
set_option linter.unusedSimpArgs false
namespace Go.Ot
open Go.RowKit

/-- A run that comes to the value v and the heap H'. -/
def Stp (P : Program) (H : Heap) (ρ : Nat → Nat × Nat) (w : World) (s : Sem Value) (v : Value) (H' : Heap) : Prop :=
  ∃ ρ' v' w', s.run P w = .ok v' w' ∧ r3 (H'.cx ρ') v v' ∧ Rep H' ρ' w' ∧ (H.cx ρ).le (H'.cx ρ')
theorem Stp.same {P : Program} {H : Heap} {ρ : Nat → Nat × Nat} {w : World} {s : Sem Value} {v v' : Value} (hR : Rep H ρ w) (hs : s.run P w = .ok v' w) (hv : r3 (H.cx ρ) v v') : Stp P H ρ w s v H :=
  ⟨ρ, v', w, hs, hv, hR, Cx.le.refl _⟩

/-! ### numbers, bools, strings -/
def iBin (op : BinOp) (k : IntKind) (a b : Int) : Option Value :=
  match op with
  | .add => some (.int k (k.wrap (a + b)))
  | .sub => some (.int k (k.wrap (a - b)))
  | .mul => some (.int k (k.wrap (a * b)))
  | .quo => if b = 0 then none else some (.int k (k.wrap (a.tdiv b)))
  | .rem => if b = 0 then none else some (.int k (a.tmod b))
  | .and => some (.int k (k.wrap (BitVec.ofInt k.bits a &&& BitVec.ofInt k.bits b).toNat))
  | .or => some (.int k (k.wrap (BitVec.ofInt k.bits a ||| BitVec.ofInt k.bits b).toNat))
  | .xor => some (.int k (k.wrap (BitVec.ofInt k.bits a ^^^ BitVec.ofInt k.bits b).toNat))
  | .andNot => some (.int k (k.wrap (BitVec.ofInt k.bits a &&& ~~~ BitVec.ofInt k.bits b).toNat))
  | .eql => some (.bool (a == b))
  | .neq => some (.bool (a != b))
  | .lss => some (.bool (decide (a < b)))
  | .leq => some (.bool (decide (a ≤ b)))
  | .gtr => some (.bool (decide (a > b)))
  | .geq => some (.bool (decide (a ≥ b)))
  | _ => none
def sBinS (op : BinOp) (a b : ByteArray) : Option Value :=
  match op with
  | .add => if a.size + b.size ≤ 9223372036854775807 then some (.string (a ++ b)) else none
  | .eql => some (.bool (a.toList == b.toList))
  | .neq => some (.bool (!(a.toList == b.toList)))
  | .lss => some (.bool (Op.bytesLess a.toList b.toList))
  | .leq => some (.bool (Op.bytesLess a.toList b.toList || a.toList == b.toList))
  | .gtr => some (.bool (!(Op.bytesLess a.toList b.toList || a.toList == b.toList)))
  | .geq => some (.bool (!Op.bytesLess a.toList b.toList))
  | _ => none
def sBin (op : BinOp) (x y : Value) : Option Value :=
  match x, y with
  | .int k a, .int k' b =>
    match op with
    | .shl => if b < 0 then none else some (.int k (k.wrap (a * 2 ^ min b.toNat k.bits)))
    | .shr => if b < 0 then none else some (.int k (a.fdiv (2 ^ min b.toNat k.bits)))
    | op => if k = k' then iBin op k a b else none
  | .string a, .string b => sBinS op a b
  | _, _ => none
theorem eqGuard_int {P : Program} {w : World} (op : BinOp) (t : TypeId) (x y : Operand) (k k' : IntKind) (a b : Int) :
    (eqGuard op t x y (.int k a) (.int k' b)).run P w = .ok () w := by
  unfold eqGuard
  cases op <;> simp
theorem eqGuard_string {P : Program} {w : World} (op : BinOp) (t : TypeId) (x y : Operand) (a b : ByteArray) :
    (eqGuard op t x y (.string a) (.string b)).run P w = .ok () w := by
  unfold eqGuard
  cases op <;> simp
theorem eqGuard_bool {P : Program} {w : World} (op : BinOp) (t : TypeId) (x y : Operand) (a b : Bool) :
    (eqGuard op t x y (.bool a) (.bool b)).run P w = .ok () w := by
  unfold eqGuard
  cases op <;> simp
theorem iBin_run {op : BinOp} {k : IntKind} {a b : Int} {v : Value} (h : iBin op k a b = some v) (P : Program) (w : World) (t : TypeId) :
    (binOp op t (.int k a) (.int k b)).run P w = .ok v w ∧ plain0 v = true := by
  cases op <;> simp only [iBin] at h <;> (try (split at h)) <;> (try cases h) <;> refine ⟨?_, rfl⟩ <;>
    (try (rename_i hb; simp [binOp, Op.intDiv, hb]; done)) <;> (simp [binOp, Op.intArith, Op.intBits, Op.intCmp]; done)
theorem sBin_run {op : BinOp} {x y v : Value} (h : sBin op x y = some v) (P : Program) (w : World) (t : TypeId) (ox oy : Operand) :
    (do eqGuard op t ox oy x y; binOp op t x y : Sem Value).run P w = .ok v w ∧ plain0 v = true ∧ plain0 x = true ∧ plain0 y = true := by
  unfold sBin at h
  split at h
  · rename_i k a k' b
    rw [Sem.run_bind, eqGuard_int, Result.andThen_ok]
    split at h
    · split at h
      · cases h
      · rename_i hb; cases h
        exact ⟨by simp only [binOp, Op.shift, hb, if_false]; rfl, rfl, rfl, rfl⟩
    · split at h
      · cases h
      · rename_i hb; cases h
        exact ⟨by simp only [binOp, Op.shift, hb, if_false]; rfl, rfl, rfl, rfl⟩
    · split at h
      · rename_i hk; subst hk
        obtain ⟨h1, h2⟩ := iBin_run h P w t
        exact ⟨h1, h2, rfl, rfl⟩
      · cases h
  · rename_i a b
    rw [Sem.run_bind, eqGuard_string, Result.andThen_ok]
    refine ⟨?_, ?_, rfl, rfl⟩
    · cases op <;> simp only [sBinS] at h <;> (try (split at h)) <;> (try cases h) <;> (try (simp [binOp, Op.stringOp]; done))
      rename_i hle
      have e : ¬ (((a.size + b.size : Nat) : Int) > IntKind.i64.max) := by
        have : IntKind.i64.max = 9223372036854775807 := rfl
        rw [this]; omega
      simp only [binOp, Op.stringOp, e, if_false]; rfl
    · cases op <;> simp only [sBinS] at h <;> (try (split at h)) <;> (try cases h) <;> rfl
  · cases h

/-! ### nil, bools -/
def isNil : Value → Option Bool
  | .pointer a => some a.isNone
  | .slice a _ _ => some a.isNone
  | .map a => some a.isNone
  | .nilIface => some true
  | .iface _ _ => some false
  | .nilFunc => some true
  | .func _ _ _ => some false
  | _ => none
theorem isNil_rel {c : Cx} {v v' : Value} {b : Bool} (h : isNil v = some b) (hr : r3 c v v') : isNil v' = some b := by
  cases v <;> simp only [isNil] at h <;> (try (cases h; done))
  · rename_i a; cases a with
    | none => simp only [r3, r2, r1, r0] at hr; subst hr; exact h
    | some a => simp only [r3, r2, r1, r0] at hr; rw [hr.2]; exact h
  · rename_i a n k; cases a with
    | none => simp only [r3, r2, r1, r0] at hr; subst hr; exact h
    | some a =>
      simp only [r3, r2, r1, r0] at hr
      obtain ⟨_, _, _, hr, _⟩ := hr; subst hr; exact h
  · rename_i a; cases a with
    | none => simp only [r3, r2, r1, r0] at hr; subst hr; exact h
    | some a => simp only [r3, r2, r1, r0] at hr; rw [hr.2]; exact h
  · simp only [r3, r2, r1] at hr; obtain ⟨_, _, hr, _⟩ := hr; subst hr; exact h
  · simp only [r3, r2, r1, r0] at hr; subst hr; exact h
  · simp only [r3, r2, r1] at hr; obtain ⟨_, hr, _⟩ := hr; subst hr; exact h
  · simp only [r3, r2, r1, r0] at hr; subst hr; exact h
/-- Which literal nil fits a type. -/
def nilOf : TypeDesc → Option Value
  | .pointer _ => some (.pointer none)
  | .slice _ => some (.slice none 0 0)
  | .map _ _ => some (.map none)
  | .interface _ => some .nilIface
  | .func _ _ _ => some .nilFunc
  | _ => none
/-- Does a value fit a type that has nil? -/
def fitsNil : TypeDesc → Value → Bool
  | .pointer _, .pointer _ => true
  | .slice _, .slice _ _ _ => true
  | .map _ _, .map _ => true
  | .interface _, .nilIface => true
  | .interface _, .iface _ _ => true
  | .func _ _ _, .nilFunc => true
  | .func _ _ _, .func _ _ _ => true
  | _, _ => false
theorem fitsNil_rel {c : Cx} {d : TypeDesc} {v v' : Value} (h : fitsNil d v = true) (hr : r3 c v v') : fitsNil d v' = true := by
  have key : ∀ b, isNil v = some b → isNil v' = some b := fun b hb => isNil_rel hb hr
  cases d <;> cases v <;> simp only [fitsNil] at h <;> (try (cases h; done))
  · rename_i a; have := key _ rfl; cases a with
    | none => simp only [r3, r2, r1, r0] at hr; subst hr; rfl
    | some a => simp only [r3, r2, r1, r0] at hr; rw [hr.2]; rfl
  · rename_i e a n k; cases a with
    | none => simp only [r3, r2, r1, r0] at hr; subst hr; rfl
    | some a =>
      simp only [r3, r2, r1, r0] at hr
      obtain ⟨_, _, _, hr, _⟩ := hr; subst hr; rfl
  · rename_i a; cases a with
    | none => simp only [r3, r2, r1, r0] at hr; subst hr; rfl
    | some a => simp only [r3, r2, r1, r0] at hr; rw [hr.2]; rfl
  · simp only [r3, r2, r1] at hr; obtain ⟨_, _, hr, _⟩ := hr; subst hr; rfl
  · simp only [r3, r2, r1, r0] at hr; subst hr; rfl
  · simp only [r3, r2, r1] at hr; obtain ⟨_, hr, _⟩ := hr; subst hr; rfl
  · simp only [r3, r2, r1, r0] at hr; subst hr; rfl
theorem run_equalIn_nil {P : Program} {w : World} {t : TypeId} {d : TypeDesc} {x y : Value} {b : Bool} (n : Nat) (hd : P.underlying t = some d) (hy : nilOf d = some y) (hf : fitsNil d x = true) (hn : isNil x = some b) :
    (Op.equalIn (n + 1) t x y).run P w = .ok b w := by
  cases d <;> simp only [nilOf] at hy <;> (try (cases hy; done)) <;> cases hy <;> cases x <;> simp only [fitsNil] at hf <;> (try (cases hf; done)) <;>
    simp only [isNil] at hn <;> simp only [Op.equalIn, Sem.run_bind, run_underlying hd, Result.andThen_ok]
  · rename_i a; cases a <;> simp at hn <;> subst hn <;> rfl
  · rename_i a _ _; cases a <;> simp at hn <;> subst hn <;> rfl
  · rename_i a; cases a <;> simp at hn <;> subst hn <;> rfl
  all_goals (cases hn; rfl)
theorem run_equal_nil {P : Program} {w : World} {t : TypeId} {d : TypeDesc} {x y : Value} {b : Bool} (hd : P.underlying t = some d) (hy : nilOf d = some y) (hf : fitsNil d x = true) (hn : isNil x = some b) :
    (Op.equal t x y).run P w = .ok b w := run_equalIn_nil 9999 hd hy hf hn
theorem run_equalIn_bool {P : Program} {w : World} {t : TypeId} (a b : Bool) (n : Nat) (hd : P.underlying t = some .bool) : (Op.equalIn (n + 1) t (.bool a) (.bool b)).run P w = .ok (a == b) w := by
  simp only [Op.equalIn, Sem.run_bind, run_underlying hd, Result.andThen_ok]
  rfl
theorem run_equal_bool {P : Program} {w : World} {t : TypeId} (a b : Bool) (hd : P.underlying t = some .bool) : (Op.equal t (.bool a) (.bool b)).run P w = .ok (a == b) w := run_equalIn_bool a b 9999 hd
theorem run_eql_nil {P : Program} {w : World} {t : TypeId} {d : TypeDesc} {x y : Value} {b : Bool} (ox : Operand) (hd : P.underlying t = some d) (hy : nilOf d = some y) (hf : fitsNil d x = true) (hn : isNil x = some b) (neq : Bool) :
    (do eqGuard (if neq then .neq else .eql) t ox (.const y) x y; binOp (if neq then .neq else .eql) t x y : Sem Value).run P w = .ok (.bool (if neq then !b else b)) w := by
  have he := run_equal_nil (P := P) (w := w) hd hy hf hn
  have hg : (eqGuard (if neq then .neq else .eql) t ox (.const y) x y).run P w = .ok () w := by
    unfold eqGuard
    cases d <;> simp only [nilOf] at hy <;> (try (cases hy; done)) <;> cases hy <;> cases x <;> simp only [fitsNil] at hf <;> (try (cases hf; done)) <;> cases neq <;> simp
  rw [Sem.run_bind, hg, Result.andThen_ok]
  cases d <;> simp only [nilOf] at hy <;> (try (cases hy; done)) <;> cases hy <;> cases x <;> simp only [fitsNil] at hf <;> (try (cases hf; done)) <;> cases neq <;>
    simp [binOp, he]
theorem run_eql_bool {P : Program} {w : World} {t : TypeId} (a b : Bool) (ox oy : Operand) (hd : P.underlying t = some .bool) (neq : Bool) :
    (do eqGuard (if neq then .neq else .eql) t ox oy (.bool a) (.bool b); binOp (if neq then .neq else .eql) t (.bool a) (.bool b) : Sem Value).run P w = .ok (.bool (if neq then !(a == b) else a == b)) w := by
  rw [Sem.run_bind, eqGuard_bool, Result.andThen_ok]
  have he := run_equal_bool (P := P) (w := w) a b hd
  cases neq <;> simp [binOp, he]

/-! ### one operand -/
def sUn (op : UnOp) (x : Value) : Option Value :=
  match op, x with
  | .neg, .int k n => some (.int k (k.wrap (0 - n)))
  | .xor, .int k n => iBin .xor k (if k.signed then -1 else k.max) n
  | .not, .bool b => some (.bool !b)
  | _, _ => none
theorem sUn_run {op : UnOp} {x v : Value} (h : sUn op x = some v) (P : Program) (w : World) : (Op.unary op x).run P w = .ok v w ∧ plain0 v = true ∧ plain0 x = true := by
  unfold sUn at h
  split at h
  · cases h; exact ⟨rfl, rfl, rfl⟩
  · rename_i k n
    simp only [iBin] at h
    cases h; exact ⟨rfl, rfl, rfl⟩
  · cases h; exact ⟨rfl, rfl, rfl⟩
  · cases h
end Go.Ot
