/-
  Part V: the rules by which light code is rewritten.
-/
import Derived.Test.YtfmcnojojknkfaaOtU
import Derived.IntWalk
set_option linter.unusedVariables false
set_option linter.unusedSimpArgs false
namespace Go.Ot
open Go.RowKit

/-- There is an outcome, and it is so with it. -/
def goO {α : Type} (o : Option α) (K : α → Prop) : Prop := match o with | some a => K a | none => False
theorem goO_some {α : Type} (a : α) (K : α → Prop) : goO (some a) K = K a := _root_.id rfl
theorem goO_none {α : Type} (K : α → Prop) : goO none K = False := _root_.id rfl
theorem goO_ite {α : Type} (c : Prop) [Decidable c] (o : Option α) (K : α → Prop) : goO (if c then o else none) K = (c ∧ goO o K) := by
  by_cases h : c <;> simp [goO, h]
theorem goO_map {α β : Type} (o : Option α) (f : α → β) (K : β → Prop) : goO (o.map f) K = goO o (fun a => K (f a)) := by cases o <;> rfl
theorem goO_bind {α β : Type} (o : Option α) (f : α → Option β) (K : β → Prop) : goO (o.bind f) K = goO o (fun a => goO (f a) K) := by cases o <;> rfl
theorem goO_ex {α : Type} (o : Option α) (K : α → Prop) : goO o K = ∃ a, o = some a ∧ K a := by
  cases o with
  | none => simp [goO]
  | some a => exact propext ⟨fun h => ⟨a, rfl, h⟩, by rintro ⟨b, h, hk⟩; cases h; exact hk⟩
def goC (v : Value) (A B : Prop) : Prop := match v with | .bool true => A | .bool false => B | _ => False
theorem goC_bool (b : Bool) (A B : Prop) : goC (.bool b) A B = if b = true then A else B := by cases b <;> simp [goC]

def goB (b : Bool) (A B : Prop) : Prop := match b with | true => A | false => B
theorem goB_true (A B : Prop) : goB true A B = A := rfl
theorem goB_false (A B : Prop) : goB false A B = B := rfl
theorem goB_ite (b : Bool) (A B : Prop) : (if b = true then A else B) = goB b A B := by cases b <;> simp [goB]
/-! ### only what is next is rewritten -/
@[congr] theorem goO_congr {α : Type} {o o' : Option α} {K : α → Prop} (h : o = o') : goO o K = goO o' K := by rw [h]
@[congr] theorem goC_congr {v v' : Value} {A B : Prop} (h : v = v') : goC v A B = goC v' A B := by rw [h]
@[congr] theorem goB_congr {v v' : Bool} {A B : Prop} (h : v = v') : goB v A B = goB v' A B := by rw [h]
@[congr] theorem wpO_congr {P : Program} {l : List LIns} {Q : Tm → Heap → Prop} {t t' : Tm} {H H' : Heap} (h : t = t') (h2 : H = H') : wpO P l Q t H = wpO P l Q t' H' := by rw [h, h2]
@[congr] theorem wpA_congr {P : Program} {l : LCode} {Q : Post} {t t' : Tm} {H H' : Heap} (h : t = t') (h2 : H = H') : wpA P l Q t H = wpA P l Q t' H' := by rw [h, h2]
@[congr] theorem thenA_congr {N : Tm → Heap → Prop} {Q : Post} {e : Exit} {t t' : Tm} {H H' : Heap} (h : t = t') (h2 : H = H') : thenA N Q e t H = thenA N Q e t' H' := by rw [h, h2]
@[congr] theorem blockA_congr {id : Nat} {Q : Post} {e : Exit} {t t' : Tm} {H H' : Heap} (h : t = t') (h2 : H = H') : blockA id Q e t H = blockA id Q e t' H' := by rw [h, h2]
@[congr] theorem EndA_congr {Q : Value → Heap → Prop} {lr : List LRes} {e : Exit} {t t' : Tm} {H H' : Heap} (h : t = t') (h2 : H = H') : EndA Q lr e t H = EndA Q lr e t' H' := by rw [h, h2]
@[congr] theorem wpD_congr {P : Program} {l : List DIns} {Q : Tm → Heap → Prop} {t t' : Tm} {hs hs' : List Heap} {pend : List Pend} (h : t = t') (h2 : hs = hs') : wpD P l hs pend Q t = wpD P l hs' pend Q t' := by rw [h, h2]

/-! ### one operation -/
def wpI (P : Program) (op : LOp) (t : Tm) (H : Heap) (K : Value → Heap → Prop) : Prop := ∃ v H', Do P t H op v H' ∧ K v H'
def wpP (P : Program) (op : LOp) (t : Tm) (H : Heap) (K : Value → Prop) : Prop := ∃ v, Do P t H op v H ∧ K v
@[congr] theorem wpI_congr {P : Program} {op : LOp} {K : Value → Heap → Prop} {t t' : Tm} {H H' : Heap} (h : t = t') (h2 : H = H') : wpI P op t H K = wpI P op t' H' K := by rw [h, h2]
@[congr] theorem wpP_congr {P : Program} {op : LOp} {K : Value → Prop} {t t' : Tm} {H H' : Heap} (h : t = t') (h2 : H = H') : wpP P op t H K = wpP P op t' H' K := by rw [h, h2]
theorem wpI_step {P : Program} {op : LOp} {t : Tm} {H : Heap} {K : Value → Heap → Prop} (h : isCall op = false) : wpI P op t H K = goO (step H t op) (fun p => K p.1 p.2) := by
  rw [goO_ex]
  have hd : ∀ v H', Do P t H op v H' ↔ step H t op = some (v, H') := by intro v H'; cases op <;> first | exact Iff.rfl | cases h
  refine propext ⟨?_, ?_⟩
  · rintro ⟨v, H', h1, h2⟩; exact ⟨(v, H'), (hd _ _).1 h1, h2⟩
  · rintro ⟨⟨v, H'⟩, h1, h2⟩; exact ⟨v, H', (hd _ _).2 h1, h2⟩
theorem wpP_map {P : Program} {op : LOp} {t : Tm} {H : Heap} {K : Value → Prop} {o : Option Value} (h : isCall op = false) (ho : step H t op = o.map (·, H)) : wpP P op t H K = goO o K := by
  rw [goO_ex]
  have hd : ∀ v, Do P t H op v H ↔ o = some v := by
    intro v
    have : Do P t H op v H ↔ step H t op = some (v, H) := by cases op <;> first | exact Iff.rfl | cases h
    rw [this, ho]
    cases o <;> simp
  refine propext ⟨?_, ?_⟩
  · rintro ⟨v, h1, h2⟩; exact ⟨v, (hd _).1 h1, h2⟩
  · rintro ⟨v, h1, h2⟩; exact ⟨v, (hd _).2 h1, h2⟩

def sLenS (x : Value) : Option Value := match x with | .string s => some (.int .i64 s.size) | _ => none
def sLenL (x : Value) : Option Value := match x with | .slice _ n _ => some (.int .i64 n) | _ => none
def sMM (mx : Bool) (x : Value) (rest : List Value) : Option Value := match x with | .int k n => sMinMax mx (.int k n) rest | _ => none
def sEqB (neq : Bool) (x y : Value) : Option Value := match x, y with | .bool a, .bool b => some (.bool (if neq then !(a == b) else a == b)) | _, _ => none
def sPick (c a b : Value) : Option Value := match c with | .bool true => some a | .bool false => some b | _ => none
theorem step_move (H : Heap) (t : Tm) (x : Operand) : step H t (.move x) = (some (ev t x)).map (·, H) := rfl
theorem wpI_move (P : Program) (t : Tm) (H : Heap) (K : Value → Heap → Prop) (x : Operand) : wpI P (.move x) t H K = goO (some (ev t x)) (fun v => K v H) := by rw [wpI_step rfl, step_move, goO_map]
theorem wpP_move (P : Program) (t : Tm) (H : Heap) (K : Value → Prop) (x : Operand) : wpP P (.move x) t H K = goO (some (ev t x)) K := wpP_map rfl (step_move H t x)
@[simp ↓] theorem do_move (P : Program) (t : Tm) (H : Heap) (v : Value) (x : Operand) : Do P t H (.move x) v H = ((some (ev t x)) = some v) := by
  have h := step_move H t x
  have e : Do P t H (.move x) v H = (step H t (.move x) = some (v, H)) := rfl
  rw [e, h]
  cases (some (ev t x)) <;> simp
theorem step_build (H : Heap) (t : Tm) (z : List Value) (ps : List (Nat × Nat × Operand)) : step H t (.build z ps) = ((fillA z (evParts t ps)).map (fun out => Value.agg out.toArray)).map (·, H) := by simp only [step, Option.map_map]; rfl
@[simp ↓] theorem wpI_build (P : Program) (t : Tm) (H : Heap) (K : Value → Heap → Prop) (z : List Value) (ps : List (Nat × Nat × Operand)) : wpI P (.build z ps) t H K = goO ((fillA z (evParts t ps)).map (fun out => Value.agg out.toArray)) (fun v => K v H) := by rw [wpI_step rfl, step_build, goO_map]
@[simp ↓] theorem wpP_build (P : Program) (t : Tm) (H : Heap) (K : Value → Prop) (z : List Value) (ps : List (Nat × Nat × Operand)) : wpP P (.build z ps) t H K = goO ((fillA z (evParts t ps)).map (fun out => Value.agg out.toArray)) K := wpP_map rfl (step_build H t z ps)
@[simp ↓] theorem do_build (P : Program) (t : Tm) (H : Heap) (v : Value) (z : List Value) (ps : List (Nat × Nat × Operand)) : Do P t H (.build z ps) v H = (((fillA z (evParts t ps)).map (fun out => Value.agg out.toArray)) = some v) := by
  have h := step_build H t z ps
  have e : Do P t H (.build z ps) v H = (step H t (.build z ps) = some (v, H)) := rfl
  rw [e, h]
  cases ((fillA z (evParts t ps)).map (fun out => Value.agg out.toArray)) <;> simp
theorem step_nilCheck (H : Heap) (t : Tm) (x : Operand) : step H t (.nilCheck x) = (sNilCheck (ev t x)).map (·, H) := rfl
@[simp ↓] theorem wpI_nilCheck (P : Program) (t : Tm) (H : Heap) (K : Value → Heap → Prop) (x : Operand) : wpI P (.nilCheck x) t H K = goO (sNilCheck (ev t x)) (fun v => K v H) := by rw [wpI_step rfl, step_nilCheck, goO_map]
@[simp ↓] theorem wpP_nilCheck (P : Program) (t : Tm) (H : Heap) (K : Value → Prop) (x : Operand) : wpP P (.nilCheck x) t H K = goO (sNilCheck (ev t x)) K := wpP_map rfl (step_nilCheck H t x)
@[simp ↓] theorem do_nilCheck (P : Program) (t : Tm) (H : Heap) (v : Value) (x : Operand) : Do P t H (.nilCheck x) v H = ((sNilCheck (ev t x)) = some v) := by
  have h := step_nilCheck H t x
  have e : Do P t H (.nilCheck x) v H = (step H t (.nilCheck x) = some (v, H)) := rfl
  rw [e, h]
  cases (sNilCheck (ev t x)) <;> simp
theorem step_bin (H : Heap) (t : Tm) (o : BinOp) (x y : Operand) : step H t (.bin o x y) = (sBin o (ev t x) (ev t y)).map (·, H) := rfl
@[simp ↓] theorem wpI_bin (P : Program) (t : Tm) (H : Heap) (K : Value → Heap → Prop) (o : BinOp) (x y : Operand) : wpI P (.bin o x y) t H K = goO (sBin o (ev t x) (ev t y)) (fun v => K v H) := by rw [wpI_step rfl, step_bin, goO_map]
@[simp ↓] theorem wpP_bin (P : Program) (t : Tm) (H : Heap) (K : Value → Prop) (o : BinOp) (x y : Operand) : wpP P (.bin o x y) t H K = goO (sBin o (ev t x) (ev t y)) K := wpP_map rfl (step_bin H t o x y)
@[simp ↓] theorem do_bin (P : Program) (t : Tm) (H : Heap) (v : Value) (o : BinOp) (x y : Operand) : Do P t H (.bin o x y) v H = ((sBin o (ev t x) (ev t y)) = some v) := by
  have h := step_bin H t o x y
  have e : Do P t H (.bin o x y) v H = (step H t (.bin o x y) = some (v, H)) := rfl
  rw [e, h]
  cases (sBin o (ev t x) (ev t y)) <;> simp
theorem step_isNil (H : Heap) (t : Tm) (neq : Bool) (d : TypeDesc) (x : Operand) : step H t (.isNil neq d x) = (if fitsNil d (ev t x) then (isNil (ev t x)).map (fun b => Value.bool (if neq then !b else b)) else none).map (·, H) := by simp only [step]; split <;> simp [*, Option.map_map, Function.comp_def]
@[simp ↓] theorem wpI_isNil (P : Program) (t : Tm) (H : Heap) (K : Value → Heap → Prop) (neq : Bool) (d : TypeDesc) (x : Operand) : wpI P (.isNil neq d x) t H K = goO (if fitsNil d (ev t x) then (isNil (ev t x)).map (fun b => Value.bool (if neq then !b else b)) else none) (fun v => K v H) := by rw [wpI_step rfl, step_isNil, goO_map]
@[simp ↓] theorem wpP_isNil (P : Program) (t : Tm) (H : Heap) (K : Value → Prop) (neq : Bool) (d : TypeDesc) (x : Operand) : wpP P (.isNil neq d x) t H K = goO (if fitsNil d (ev t x) then (isNil (ev t x)).map (fun b => Value.bool (if neq then !b else b)) else none) K := wpP_map rfl (step_isNil H t neq d x)
@[simp ↓] theorem do_isNil (P : Program) (t : Tm) (H : Heap) (v : Value) (neq : Bool) (d : TypeDesc) (x : Operand) : Do P t H (.isNil neq d x) v H = ((if fitsNil d (ev t x) then (isNil (ev t x)).map (fun b => Value.bool (if neq then !b else b)) else none) = some v) := by
  have h := step_isNil H t neq d x
  have e : Do P t H (.isNil neq d x) v H = (step H t (.isNil neq d x) = some (v, H)) := rfl
  rw [e, h]
  cases (if fitsNil d (ev t x) then (isNil (ev t x)).map (fun b => Value.bool (if neq then !b else b)) else none) <;> simp
theorem step_un (H : Heap) (t : Tm) (o : UnOp) (x : Operand) : step H t (.un o x) = (sUn o (ev t x)).map (·, H) := rfl
@[simp ↓] theorem wpI_un (P : Program) (t : Tm) (H : Heap) (K : Value → Heap → Prop) (o : UnOp) (x : Operand) : wpI P (.un o x) t H K = goO (sUn o (ev t x)) (fun v => K v H) := by rw [wpI_step rfl, step_un, goO_map]
@[simp ↓] theorem wpP_un (P : Program) (t : Tm) (H : Heap) (K : Value → Prop) (o : UnOp) (x : Operand) : wpP P (.un o x) t H K = goO (sUn o (ev t x)) K := wpP_map rfl (step_un H t o x)
@[simp ↓] theorem do_un (P : Program) (t : Tm) (H : Heap) (v : Value) (o : UnOp) (x : Operand) : Do P t H (.un o x) v H = ((sUn o (ev t x)) = some v) := by
  have h := step_un H t o x
  have e : Do P t H (.un o x) v H = (step H t (.un o x) = some (v, H)) := rfl
  rw [e, h]
  cases (sUn o (ev t x)) <;> simp
theorem step_conv (H : Heap) (t : Tm) (k : IntKind) (x : Operand) : step H t (.conv k x) = (sConv k (ev t x)).map (·, H) := rfl
@[simp ↓] theorem wpI_conv (P : Program) (t : Tm) (H : Heap) (K : Value → Heap → Prop) (k : IntKind) (x : Operand) : wpI P (.conv k x) t H K = goO (sConv k (ev t x)) (fun v => K v H) := by rw [wpI_step rfl, step_conv, goO_map]
@[simp ↓] theorem wpP_conv (P : Program) (t : Tm) (H : Heap) (K : Value → Prop) (k : IntKind) (x : Operand) : wpP P (.conv k x) t H K = goO (sConv k (ev t x)) K := wpP_map rfl (step_conv H t k x)
@[simp ↓] theorem do_conv (P : Program) (t : Tm) (H : Heap) (v : Value) (k : IntKind) (x : Operand) : Do P t H (.conv k x) v H = ((sConv k (ev t x)) = some v) := by
  have h := step_conv H t k x
  have e : Do P t H (.conv k x) v H = (step H t (.conv k x) = some (v, H)) := rfl
  rw [e, h]
  cases (sConv k (ev t x)) <;> simp
theorem step_same (H : Heap) (t : Tm) (x : Operand) : step H t (.same x) = (sSame (ev t x)).map (·, H) := rfl
@[simp ↓] theorem wpI_same (P : Program) (t : Tm) (H : Heap) (K : Value → Heap → Prop) (x : Operand) : wpI P (.same x) t H K = goO (sSame (ev t x)) (fun v => K v H) := by rw [wpI_step rfl, step_same, goO_map]
@[simp ↓] theorem wpP_same (P : Program) (t : Tm) (H : Heap) (K : Value → Prop) (x : Operand) : wpP P (.same x) t H K = goO (sSame (ev t x)) K := wpP_map rfl (step_same H t x)
@[simp ↓] theorem do_same (P : Program) (t : Tm) (H : Heap) (v : Value) (x : Operand) : Do P t H (.same x) v H = ((sSame (ev t x)) = some v) := by
  have h := step_same H t x
  have e : Do P t H (.same x) v H = (step H t (.same x) = some (v, H)) := rfl
  rw [e, h]
  cases (sSame (ev t x)) <;> simp
theorem step_arr (H : Heap) (t : Tm) (n : Nat) (x : Operand) : step H t (.arr n x) = (sArr n (ev t x)).map (·, H) := rfl
@[simp ↓] theorem wpI_arr (P : Program) (t : Tm) (H : Heap) (K : Value → Heap → Prop) (n : Nat) (x : Operand) : wpI P (.arr n x) t H K = goO (sArr n (ev t x)) (fun v => K v H) := by rw [wpI_step rfl, step_arr, goO_map]
@[simp ↓] theorem wpP_arr (P : Program) (t : Tm) (H : Heap) (K : Value → Prop) (n : Nat) (x : Operand) : wpP P (.arr n x) t H K = goO (sArr n (ev t x)) K := wpP_map rfl (step_arr H t n x)
@[simp ↓] theorem do_arr (P : Program) (t : Tm) (H : Heap) (v : Value) (n : Nat) (x : Operand) : Do P t H (.arr n x) v H = ((sArr n (ev t x)) = some v) := by
  have h := step_arr H t n x
  have e : Do P t H (.arr n x) v H = (step H t (.arr n x) = some (v, H)) := rfl
  rw [e, h]
  cases (sArr n (ev t x)) <;> simp
theorem step_iface (H : Heap) (t : Tm) (ty : TypeId) (x : Operand) : step H t (.iface ty x) = (sIface ty (ev t x)).map (·, H) := rfl
@[simp ↓] theorem wpI_iface (P : Program) (t : Tm) (H : Heap) (K : Value → Heap → Prop) (ty : TypeId) (x : Operand) : wpI P (.iface ty x) t H K = goO (sIface ty (ev t x)) (fun v => K v H) := by rw [wpI_step rfl, step_iface, goO_map]
@[simp ↓] theorem wpP_iface (P : Program) (t : Tm) (H : Heap) (K : Value → Prop) (ty : TypeId) (x : Operand) : wpP P (.iface ty x) t H K = goO (sIface ty (ev t x)) K := wpP_map rfl (step_iface H t ty x)
@[simp ↓] theorem do_iface (P : Program) (t : Tm) (H : Heap) (v : Value) (ty : TypeId) (x : Operand) : Do P t H (.iface ty x) v H = ((sIface ty (ev t x)) = some v) := by
  have h := step_iface H t ty x
  have e : Do P t H (.iface ty x) v H = (step H t (.iface ty x) = some (v, H)) := rfl
  rw [e, h]
  cases (sIface ty (ev t x)) <;> simp
theorem step_slice (H : Heap) (t : Tm) (sz : Nat) (x : Operand) (lo hi mx : Option Operand) : step H t (.slice sz x lo hi mx) = (sSlice sz (ev t x) (lo.map (ev t)) (hi.map (ev t)) (mx.map (ev t))).map (·, H) := rfl
@[simp ↓] theorem wpI_slice (P : Program) (t : Tm) (H : Heap) (K : Value → Heap → Prop) (sz : Nat) (x : Operand) (lo hi mx : Option Operand) : wpI P (.slice sz x lo hi mx) t H K = goO (sSlice sz (ev t x) (lo.map (ev t)) (hi.map (ev t)) (mx.map (ev t))) (fun v => K v H) := by rw [wpI_step rfl, step_slice, goO_map]
@[simp ↓] theorem wpP_slice (P : Program) (t : Tm) (H : Heap) (K : Value → Prop) (sz : Nat) (x : Operand) (lo hi mx : Option Operand) : wpP P (.slice sz x lo hi mx) t H K = goO (sSlice sz (ev t x) (lo.map (ev t)) (hi.map (ev t)) (mx.map (ev t))) K := wpP_map rfl (step_slice H t sz x lo hi mx)
@[simp ↓] theorem do_slice (P : Program) (t : Tm) (H : Heap) (v : Value) (sz : Nat) (x : Operand) (lo hi mx : Option Operand) : Do P t H (.slice sz x lo hi mx) v H = ((sSlice sz (ev t x) (lo.map (ev t)) (hi.map (ev t)) (mx.map (ev t))) = some v) := by
  have h := step_slice H t sz x lo hi mx
  have e : Do P t H (.slice sz x lo hi mx) v H = (step H t (.slice sz x lo hi mx) = some (v, H)) := rfl
  rw [e, h]
  cases (sSlice sz (ev t x) (lo.map (ev t)) (hi.map (ev t)) (mx.map (ev t))) <;> simp
theorem step_sliceArr (H : Heap) (t : Tm) (n sz : Nat) (x : Operand) (lo hi mx : Option Operand) : step H t (.sliceArr n sz x lo hi mx) = (sSliceArr n sz (ev t x) (lo.map (ev t)) (hi.map (ev t)) (mx.map (ev t))).map (·, H) := rfl
@[simp ↓] theorem wpI_sliceArr (P : Program) (t : Tm) (H : Heap) (K : Value → Heap → Prop) (n sz : Nat) (x : Operand) (lo hi mx : Option Operand) : wpI P (.sliceArr n sz x lo hi mx) t H K = goO (sSliceArr n sz (ev t x) (lo.map (ev t)) (hi.map (ev t)) (mx.map (ev t))) (fun v => K v H) := by rw [wpI_step rfl, step_sliceArr, goO_map]
@[simp ↓] theorem wpP_sliceArr (P : Program) (t : Tm) (H : Heap) (K : Value → Prop) (n sz : Nat) (x : Operand) (lo hi mx : Option Operand) : wpP P (.sliceArr n sz x lo hi mx) t H K = goO (sSliceArr n sz (ev t x) (lo.map (ev t)) (hi.map (ev t)) (mx.map (ev t))) K := wpP_map rfl (step_sliceArr H t n sz x lo hi mx)
@[simp ↓] theorem do_sliceArr (P : Program) (t : Tm) (H : Heap) (v : Value) (n sz : Nat) (x : Operand) (lo hi mx : Option Operand) : Do P t H (.sliceArr n sz x lo hi mx) v H = ((sSliceArr n sz (ev t x) (lo.map (ev t)) (hi.map (ev t)) (mx.map (ev t))) = some v) := by
  have h := step_sliceArr H t n sz x lo hi mx
  have e : Do P t H (.sliceArr n sz x lo hi mx) v H = (step H t (.sliceArr n sz x lo hi mx) = some (v, H)) := rfl
  rw [e, h]
  cases (sSliceArr n sz (ev t x) (lo.map (ev t)) (hi.map (ev t)) (mx.map (ev t))) <;> simp
theorem step_sliceStr (H : Heap) (t : Tm) (x : Operand) (lo hi : Option Operand) : step H t (.sliceStr x lo hi) = (sSliceStr (ev t x) (lo.map (ev t)) (hi.map (ev t))).map (·, H) := rfl
@[simp ↓] theorem wpI_sliceStr (P : Program) (t : Tm) (H : Heap) (K : Value → Heap → Prop) (x : Operand) (lo hi : Option Operand) : wpI P (.sliceStr x lo hi) t H K = goO (sSliceStr (ev t x) (lo.map (ev t)) (hi.map (ev t))) (fun v => K v H) := by rw [wpI_step rfl, step_sliceStr, goO_map]
@[simp ↓] theorem wpP_sliceStr (P : Program) (t : Tm) (H : Heap) (K : Value → Prop) (x : Operand) (lo hi : Option Operand) : wpP P (.sliceStr x lo hi) t H K = goO (sSliceStr (ev t x) (lo.map (ev t)) (hi.map (ev t))) K := wpP_map rfl (step_sliceStr H t x lo hi)
@[simp ↓] theorem do_sliceStr (P : Program) (t : Tm) (H : Heap) (v : Value) (x : Operand) (lo hi : Option Operand) : Do P t H (.sliceStr x lo hi) v H = ((sSliceStr (ev t x) (lo.map (ev t)) (hi.map (ev t))) = some v) := by
  have h := step_sliceStr H t x lo hi
  have e : Do P t H (.sliceStr x lo hi) v H = (step H t (.sliceStr x lo hi) = some (v, H)) := rfl
  rw [e, h]
  cases (sSliceStr (ev t x) (lo.map (ev t)) (hi.map (ev t))) <;> simp
theorem step_off (H : Heap) (t : Tm) (k : Nat) (x : Operand) : step H t (.off k x) = (sOff k (ev t x)).map (·, H) := rfl
@[simp ↓] theorem wpI_off (P : Program) (t : Tm) (H : Heap) (K : Value → Heap → Prop) (k : Nat) (x : Operand) : wpI P (.off k x) t H K = goO (sOff k (ev t x)) (fun v => K v H) := by rw [wpI_step rfl, step_off, goO_map]
@[simp ↓] theorem wpP_off (P : Program) (t : Tm) (H : Heap) (K : Value → Prop) (k : Nat) (x : Operand) : wpP P (.off k x) t H K = goO (sOff k (ev t x)) K := wpP_map rfl (step_off H t k x)
@[simp ↓] theorem do_off (P : Program) (t : Tm) (H : Heap) (v : Value) (k : Nat) (x : Operand) : Do P t H (.off k x) v H = ((sOff k (ev t x)) = some v) := by
  have h := step_off H t k x
  have e : Do P t H (.off k x) v H = (step H t (.off k x) = some (v, H)) := rfl
  rw [e, h]
  cases (sOff k (ev t x)) <;> simp
theorem step_fld (H : Heap) (t : Tm) (agg : Bool) (o n : Nat) (x : Operand) : step H t (.fld agg o n x) = (sFld agg o n (ev t x)).map (·, H) := rfl
@[simp ↓] theorem wpI_fld (P : Program) (t : Tm) (H : Heap) (K : Value → Heap → Prop) (agg : Bool) (o n : Nat) (x : Operand) : wpI P (.fld agg o n x) t H K = goO (sFld agg o n (ev t x)) (fun v => K v H) := by rw [wpI_step rfl, step_fld, goO_map]
@[simp ↓] theorem wpP_fld (P : Program) (t : Tm) (H : Heap) (K : Value → Prop) (agg : Bool) (o n : Nat) (x : Operand) : wpP P (.fld agg o n x) t H K = goO (sFld agg o n (ev t x)) K := wpP_map rfl (step_fld H t agg o n x)
@[simp ↓] theorem do_fld (P : Program) (t : Tm) (H : Heap) (v : Value) (agg : Bool) (o n : Nat) (x : Operand) : Do P t H (.fld agg o n x) v H = ((sFld agg o n (ev t x)) = some v) := by
  have h := step_fld H t agg o n x
  have e : Do P t H (.fld agg o n x) v H = (step H t (.fld agg o n x) = some (v, H)) := rfl
  rw [e, h]
  cases (sFld agg o n (ev t x)) <;> simp
theorem step_idx (H : Heap) (t : Tm) (sz : Nat) (x i : Operand) : step H t (.idx sz x i) = (sIdx sz (ev t x) (ev t i)).map (·, H) := rfl
@[simp ↓] theorem wpI_idx (P : Program) (t : Tm) (H : Heap) (K : Value → Heap → Prop) (sz : Nat) (x i : Operand) : wpI P (.idx sz x i) t H K = goO (sIdx sz (ev t x) (ev t i)) (fun v => K v H) := by rw [wpI_step rfl, step_idx, goO_map]
@[simp ↓] theorem wpP_idx (P : Program) (t : Tm) (H : Heap) (K : Value → Prop) (sz : Nat) (x i : Operand) : wpP P (.idx sz x i) t H K = goO (sIdx sz (ev t x) (ev t i)) K := wpP_map rfl (step_idx H t sz x i)
@[simp ↓] theorem do_idx (P : Program) (t : Tm) (H : Heap) (v : Value) (sz : Nat) (x i : Operand) : Do P t H (.idx sz x i) v H = ((sIdx sz (ev t x) (ev t i)) = some v) := by
  have h := step_idx H t sz x i
  have e : Do P t H (.idx sz x i) v H = (step H t (.idx sz x i) = some (v, H)) := rfl
  rw [e, h]
  cases (sIdx sz (ev t x) (ev t i)) <;> simp
theorem step_idxArr (H : Heap) (t : Tm) (len sz : Nat) (x i : Operand) : step H t (.idxArr len sz x i) = (sIdxArr len sz (ev t x) (ev t i)).map (·, H) := rfl
@[simp ↓] theorem wpI_idxArr (P : Program) (t : Tm) (H : Heap) (K : Value → Heap → Prop) (len sz : Nat) (x i : Operand) : wpI P (.idxArr len sz x i) t H K = goO (sIdxArr len sz (ev t x) (ev t i)) (fun v => K v H) := by rw [wpI_step rfl, step_idxArr, goO_map]
@[simp ↓] theorem wpP_idxArr (P : Program) (t : Tm) (H : Heap) (K : Value → Prop) (len sz : Nat) (x i : Operand) : wpP P (.idxArr len sz x i) t H K = goO (sIdxArr len sz (ev t x) (ev t i)) K := wpP_map rfl (step_idxArr H t len sz x i)
@[simp ↓] theorem do_idxArr (P : Program) (t : Tm) (H : Heap) (v : Value) (len sz : Nat) (x i : Operand) : Do P t H (.idxArr len sz x i) v H = ((sIdxArr len sz (ev t x) (ev t i)) = some v) := by
  have h := step_idxArr H t len sz x i
  have e : Do P t H (.idxArr len sz x i) v H = (step H t (.idxArr len sz x i) = some (v, H)) := rfl
  rw [e, h]
  cases (sIdxArr len sz (ev t x) (ev t i)) <;> simp
theorem step_idxStr (H : Heap) (t : Tm) (x i : Operand) : step H t (.idxStr x i) = (sIdxStr (ev t x) (ev t i)).map (·, H) := rfl
@[simp ↓] theorem wpI_idxStr (P : Program) (t : Tm) (H : Heap) (K : Value → Heap → Prop) (x i : Operand) : wpI P (.idxStr x i) t H K = goO (sIdxStr (ev t x) (ev t i)) (fun v => K v H) := by rw [wpI_step rfl, step_idxStr, goO_map]
@[simp ↓] theorem wpP_idxStr (P : Program) (t : Tm) (H : Heap) (K : Value → Prop) (x i : Operand) : wpP P (.idxStr x i) t H K = goO (sIdxStr (ev t x) (ev t i)) K := wpP_map rfl (step_idxStr H t x i)
@[simp ↓] theorem do_idxStr (P : Program) (t : Tm) (H : Heap) (v : Value) (x i : Operand) : Do P t H (.idxStr x i) v H = ((sIdxStr (ev t x) (ev t i)) = some v) := by
  have h := step_idxStr H t x i
  have e : Do P t H (.idxStr x i) v H = (step H t (.idxStr x i) = some (v, H)) := rfl
  rw [e, h]
  cases (sIdxStr (ev t x) (ev t i)) <;> simp
theorem step_idxAgg (H : Heap) (t : Tm) (agg : Bool) (len n : Nat) (x i : Operand) : step H t (.idxAgg agg len n x i) = (sIdxAgg agg len n (ev t x) (ev t i)).map (·, H) := rfl
@[simp ↓] theorem wpI_idxAgg (P : Program) (t : Tm) (H : Heap) (K : Value → Heap → Prop) (agg : Bool) (len n : Nat) (x i : Operand) : wpI P (.idxAgg agg len n x i) t H K = goO (sIdxAgg agg len n (ev t x) (ev t i)) (fun v => K v H) := by rw [wpI_step rfl, step_idxAgg, goO_map]
@[simp ↓] theorem wpP_idxAgg (P : Program) (t : Tm) (H : Heap) (K : Value → Prop) (agg : Bool) (len n : Nat) (x i : Operand) : wpP P (.idxAgg agg len n x i) t H K = goO (sIdxAgg agg len n (ev t x) (ev t i)) K := wpP_map rfl (step_idxAgg H t agg len n x i)
@[simp ↓] theorem do_idxAgg (P : Program) (t : Tm) (H : Heap) (v : Value) (agg : Bool) (len n : Nat) (x i : Operand) : Do P t H (.idxAgg agg len n x i) v H = ((sIdxAgg agg len n (ev t x) (ev t i)) = some v) := by
  have h := step_idxAgg H t agg len n x i
  have e : Do P t H (.idxAgg agg len n x i) v H = (step H t (.idxAgg agg len n x i) = some (v, H)) := rfl
  rw [e, h]
  cases (sIdxAgg agg len n (ev t x) (ev t i)) <;> simp
theorem step_extract (H : Heap) (t : Tm) (x : Operand) (i : Nat) : step H t (.extract x i) = (sExtract (ev t x) i).map (·, H) := rfl
@[simp ↓] theorem wpI_extract (P : Program) (t : Tm) (H : Heap) (K : Value → Heap → Prop) (x : Operand) (i : Nat) : wpI P (.extract x i) t H K = goO (sExtract (ev t x) i) (fun v => K v H) := by rw [wpI_step rfl, step_extract, goO_map]
@[simp ↓] theorem wpP_extract (P : Program) (t : Tm) (H : Heap) (K : Value → Prop) (x : Operand) (i : Nat) : wpP P (.extract x i) t H K = goO (sExtract (ev t x) i) K := wpP_map rfl (step_extract H t x i)
@[simp ↓] theorem do_extract (P : Program) (t : Tm) (H : Heap) (v : Value) (x : Operand) (i : Nat) : Do P t H (.extract x i) v H = ((sExtract (ev t x) i) = some v) := by
  have h := step_extract H t x i
  have e : Do P t H (.extract x i) v H = (step H t (.extract x i) = some (v, H)) := rfl
  rw [e, h]
  cases (sExtract (ev t x) i) <;> simp
theorem step_lenS (H : Heap) (t : Tm) (x : Operand) : step H t (.lenS x) = (sLenS (ev t x)).map (·, H) := by simp only [step, sLenS]; cases ev t x <;> rfl
@[simp ↓] theorem wpI_lenS (P : Program) (t : Tm) (H : Heap) (K : Value → Heap → Prop) (x : Operand) : wpI P (.lenS x) t H K = goO (sLenS (ev t x)) (fun v => K v H) := by rw [wpI_step rfl, step_lenS, goO_map]
@[simp ↓] theorem wpP_lenS (P : Program) (t : Tm) (H : Heap) (K : Value → Prop) (x : Operand) : wpP P (.lenS x) t H K = goO (sLenS (ev t x)) K := wpP_map rfl (step_lenS H t x)
@[simp ↓] theorem do_lenS (P : Program) (t : Tm) (H : Heap) (v : Value) (x : Operand) : Do P t H (.lenS x) v H = ((sLenS (ev t x)) = some v) := by
  have h := step_lenS H t x
  have e : Do P t H (.lenS x) v H = (step H t (.lenS x) = some (v, H)) := rfl
  rw [e, h]
  cases (sLenS (ev t x)) <;> simp
theorem step_len (H : Heap) (t : Tm) (x : Operand) : step H t (.len x) = (sLenL (ev t x)).map (·, H) := by simp only [step, sLenL]; cases ev t x <;> rfl
@[simp ↓] theorem wpI_len (P : Program) (t : Tm) (H : Heap) (K : Value → Heap → Prop) (x : Operand) : wpI P (.len x) t H K = goO (sLenL (ev t x)) (fun v => K v H) := by rw [wpI_step rfl, step_len, goO_map]
@[simp ↓] theorem wpP_len (P : Program) (t : Tm) (H : Heap) (K : Value → Prop) (x : Operand) : wpP P (.len x) t H K = goO (sLenL (ev t x)) K := wpP_map rfl (step_len H t x)
@[simp ↓] theorem do_len (P : Program) (t : Tm) (H : Heap) (v : Value) (x : Operand) : Do P t H (.len x) v H = ((sLenL (ev t x)) = some v) := by
  have h := step_len H t x
  have e : Do P t H (.len x) v H = (step H t (.len x) = some (v, H)) := rfl
  rw [e, h]
  cases (sLenL (ev t x)) <;> simp
theorem step_lenK (H : Heap) (t : Tm) (n : Nat) : step H t (.lenK n) = (some (Value.int .i64 n)).map (·, H) := rfl
@[simp ↓] theorem wpI_lenK (P : Program) (t : Tm) (H : Heap) (K : Value → Heap → Prop) (n : Nat) : wpI P (.lenK n) t H K = goO (some (Value.int .i64 n)) (fun v => K v H) := by rw [wpI_step rfl, step_lenK, goO_map]
@[simp ↓] theorem wpP_lenK (P : Program) (t : Tm) (H : Heap) (K : Value → Prop) (n : Nat) : wpP P (.lenK n) t H K = goO (some (Value.int .i64 n)) K := wpP_map rfl (step_lenK H t n)
@[simp ↓] theorem do_lenK (P : Program) (t : Tm) (H : Heap) (v : Value) (n : Nat) : Do P t H (.lenK n) v H = ((some (Value.int .i64 n)) = some v) := by
  have h := step_lenK H t n
  have e : Do P t H (.lenK n) v H = (step H t (.lenK n) = some (v, H)) := rfl
  rw [e, h]
  cases (some (Value.int .i64 n)) <;> simp
theorem step_minmax (H : Heap) (t : Tm) (mx : Bool) (x : Operand) (rest : List Operand) : step H t (.minmax mx x rest) = (sMM mx (ev t x) (rest.map (ev t))).map (·, H) := by simp only [step, sMM]; cases ev t x <;> rfl
@[simp ↓] theorem wpI_minmax (P : Program) (t : Tm) (H : Heap) (K : Value → Heap → Prop) (mx : Bool) (x : Operand) (rest : List Operand) : wpI P (.minmax mx x rest) t H K = goO (sMM mx (ev t x) (rest.map (ev t))) (fun v => K v H) := by rw [wpI_step rfl, step_minmax, goO_map]
@[simp ↓] theorem wpP_minmax (P : Program) (t : Tm) (H : Heap) (K : Value → Prop) (mx : Bool) (x : Operand) (rest : List Operand) : wpP P (.minmax mx x rest) t H K = goO (sMM mx (ev t x) (rest.map (ev t))) K := wpP_map rfl (step_minmax H t mx x rest)
@[simp ↓] theorem do_minmax (P : Program) (t : Tm) (H : Heap) (v : Value) (mx : Bool) (x : Operand) (rest : List Operand) : Do P t H (.minmax mx x rest) v H = ((sMM mx (ev t x) (rest.map (ev t))) = some v) := by
  have h := step_minmax H t mx x rest
  have e : Do P t H (.minmax mx x rest) v H = (step H t (.minmax mx x rest) = some (v, H)) := rfl
  rw [e, h]
  cases (sMM mx (ev t x) (rest.map (ev t))) <;> simp
theorem step_eqB (H : Heap) (t : Tm) (neq : Bool) (x y : Operand) : step H t (.eqB neq x y) = (sEqB neq (ev t x) (ev t y)).map (·, H) := by simp only [step, sEqB]; cases ev t x <;> (try rfl) <;> cases ev t y <;> rfl
@[simp ↓] theorem wpI_eqB (P : Program) (t : Tm) (H : Heap) (K : Value → Heap → Prop) (neq : Bool) (x y : Operand) : wpI P (.eqB neq x y) t H K = goO (sEqB neq (ev t x) (ev t y)) (fun v => K v H) := by rw [wpI_step rfl, step_eqB, goO_map]
@[simp ↓] theorem wpP_eqB (P : Program) (t : Tm) (H : Heap) (K : Value → Prop) (neq : Bool) (x y : Operand) : wpP P (.eqB neq x y) t H K = goO (sEqB neq (ev t x) (ev t y)) K := wpP_map rfl (step_eqB H t neq x y)
@[simp ↓] theorem do_eqB (P : Program) (t : Tm) (H : Heap) (v : Value) (neq : Bool) (x y : Operand) : Do P t H (.eqB neq x y) v H = ((sEqB neq (ev t x) (ev t y)) = some v) := by
  have h := step_eqB H t neq x y
  have e : Do P t H (.eqB neq x y) v H = (step H t (.eqB neq x y) = some (v, H)) := rfl
  rw [e, h]
  cases (sEqB neq (ev t x) (ev t y)) <;> simp
theorem step_pick (H : Heap) (t : Tm) (c a b : Operand) : step H t (.pick c a b) = (sPick (ev t c) (ev t a) (ev t b)).map (·, H) := by simp only [step, sPick]; cases ev t c <;> first | rfl | (rename_i q; cases q <;> rfl)
@[simp ↓] theorem wpI_pick (P : Program) (t : Tm) (H : Heap) (K : Value → Heap → Prop) (c a b : Operand) : wpI P (.pick c a b) t H K = goO (sPick (ev t c) (ev t a) (ev t b)) (fun v => K v H) := by rw [wpI_step rfl, step_pick, goO_map]
@[simp ↓] theorem wpP_pick (P : Program) (t : Tm) (H : Heap) (K : Value → Prop) (c a b : Operand) : wpP P (.pick c a b) t H K = goO (sPick (ev t c) (ev t a) (ev t b)) K := wpP_map rfl (step_pick H t c a b)
@[simp ↓] theorem do_pick (P : Program) (t : Tm) (H : Heap) (v : Value) (c a b : Operand) : Do P t H (.pick c a b) v H = ((sPick (ev t c) (ev t a) (ev t b)) = some v) := by
  have h := step_pick H t c a b
  have e : Do P t H (.pick c a b) v H = (step H t (.pick c a b) = some (v, H)) := rfl
  rw [e, h]
  cases (sPick (ev t c) (ev t a) (ev t b)) <;> simp
theorem step_func (H : Heap) (t : Tm) (fn : Fn) (f c : List Operand) : step H t (.func fn f c) = (if (f.map (ev t)).all isR0 ∧ (c.map (ev t)).all isR0 then some (Value.func fn (f.map (ev t)).toArray (c.map (ev t)).toArray) else none).map (·, H) := by simp only [step]; split <;> rfl
@[simp ↓] theorem wpI_func (P : Program) (t : Tm) (H : Heap) (K : Value → Heap → Prop) (fn : Fn) (f c : List Operand) : wpI P (.func fn f c) t H K = goO (if (f.map (ev t)).all isR0 ∧ (c.map (ev t)).all isR0 then some (Value.func fn (f.map (ev t)).toArray (c.map (ev t)).toArray) else none) (fun v => K v H) := by rw [wpI_step rfl, step_func, goO_map]
@[simp ↓] theorem wpP_func (P : Program) (t : Tm) (H : Heap) (K : Value → Prop) (fn : Fn) (f c : List Operand) : wpP P (.func fn f c) t H K = goO (if (f.map (ev t)).all isR0 ∧ (c.map (ev t)).all isR0 then some (Value.func fn (f.map (ev t)).toArray (c.map (ev t)).toArray) else none) K := wpP_map rfl (step_func H t fn f c)
@[simp ↓] theorem do_func (P : Program) (t : Tm) (H : Heap) (v : Value) (fn : Fn) (f c : List Operand) : Do P t H (.func fn f c) v H = ((if (f.map (ev t)).all isR0 ∧ (c.map (ev t)).all isR0 then some (Value.func fn (f.map (ev t)).toArray (c.map (ev t)).toArray) else none) = some v) := by
  have h := step_func H t fn f c
  have e : Do P t H (.func fn f c) v H = (step H t (.func fn f c) = some (v, H)) := rfl
  rw [e, h]
  cases (if (f.map (ev t)).all isR0 ∧ (c.map (ev t)).all isR0 then some (Value.func fn (f.map (ev t)).toArray (c.map (ev t)).toArray) else none) <;> simp
theorem step_load (H : Heap) (t : Tm) (agg : Bool) (n : Nat) (x : Operand) : step H t (.load agg n x) = (sLoad H agg n (ev t x)).map (·, H) := rfl
@[simp ↓] theorem wpI_load (P : Program) (t : Tm) (H : Heap) (K : Value → Heap → Prop) (agg : Bool) (n : Nat) (x : Operand) : wpI P (.load agg n x) t H K = goO (sLoad H agg n (ev t x)) (fun v => K v H) := by rw [wpI_step rfl, step_load, goO_map]
@[simp ↓] theorem wpP_load (P : Program) (t : Tm) (H : Heap) (K : Value → Prop) (agg : Bool) (n : Nat) (x : Operand) : wpP P (.load agg n x) t H K = goO (sLoad H agg n (ev t x)) K := wpP_map rfl (step_load H t agg n x)
@[simp ↓] theorem do_load (P : Program) (t : Tm) (H : Heap) (v : Value) (agg : Bool) (n : Nat) (x : Operand) : Do P t H (.load agg n x) v H = ((sLoad H agg n (ev t x)) = some v) := by
  have h := step_load H t agg n x
  have e : Do P t H (.load agg n x) v H = (step H t (.load agg n x) = some (v, H)) := rfl
  rw [e, h]
  cases (sLoad H agg n (ev t x)) <;> simp
theorem step_toStr (H : Heap) (t : Tm) (x : Operand) : step H t (.toStr x) = (sToStr H (ev t x)).map (·, H) := rfl
@[simp ↓] theorem wpI_toStr (P : Program) (t : Tm) (H : Heap) (K : Value → Heap → Prop) (x : Operand) : wpI P (.toStr x) t H K = goO (sToStr H (ev t x)) (fun v => K v H) := by rw [wpI_step rfl, step_toStr, goO_map]
@[simp ↓] theorem wpP_toStr (P : Program) (t : Tm) (H : Heap) (K : Value → Prop) (x : Operand) : wpP P (.toStr x) t H K = goO (sToStr H (ev t x)) K := wpP_map rfl (step_toStr H t x)
@[simp ↓] theorem do_toStr (P : Program) (t : Tm) (H : Heap) (v : Value) (x : Operand) : Do P t H (.toStr x) v H = ((sToStr H (ev t x)) = some v) := by
  have h := step_toStr H t x
  have e : Do P t H (.toStr x) v H = (step H t (.toStr x) = some (v, H)) := rfl
  rw [e, h]
  cases (sToStr H (ev t x)) <;> simp
@[simp ↓] theorem wpI_new (P : Program) (t : Tm) (H : Heap) (K : Value → Heap → Prop) (ty : TypeId) (sz : Nat) (z : List Value) : wpI P (.new ty sz z) t H K = (K (.pointer (some ⟨H.next, 0, none⟩)) (H.new ty sz z)) := by rw [wpI_step rfl]; rfl
@[simp ↓] theorem wpI_box (P : Program) (t : Tm) (H : Heap) (K : Value → Heap → Prop) (ty : TypeId) (sz : Nat) (x : Operand) : wpI P (.box ty sz x) t H K = ((notTup (ev t x) = true ∧ (ev t x).cells.size = sz) ∧ K (.pointer (some ⟨H.next, 0, none⟩)) (H.new ty sz (ev t x).cells.toList)) := by rw [wpI_step rfl]; simp only [step, goO_ite, goO_some]
@[simp ↓] theorem wpI_buildSlice (P : Program) (t : Tm) (H : Heap) (K : Value → Heap → Prop) (ety : TypeId) (sz len : Nat) (z : List Value) (ps : List (Nat × Nat × Operand)) : wpI P (.buildSlice ety sz len z ps) t H K = (goO (fillA (zerosA z (len * sz)) (evParts t ps)) (fun out => out.length = len * sz ∧ K (.slice (some ⟨H.next, 0, none⟩) len 0) (H.new ety sz out))) := by rw [wpI_step rfl]; simp only [step, goO_bind, goO_ite, goO_some]
@[simp ↓] theorem wpI_store (P : Program) (t : Tm) (H : Heap) (K : Value → Heap → Prop) (n : Nat) (a x : Operand) : wpI P (.store n a x) t H K = (goO (sStore H n (ev t a) (ev t x)) (fun H2 => K undef H2)) := by rw [wpI_step rfl]; simp only [step, goO_map]
@[simp ↓] theorem wpI_toBytes (P : Program) (t : Tm) (H : Heap) (K : Value → Heap → Prop) (ety : TypeId) (x : Operand) : wpI P (.toBytes ety x) t H K = (goO (sToBytes H ety (ev t x)) (fun p => K p.1 p.2)) := by rw [wpI_step rfl]; rfl
@[simp ↓] theorem wpI_mark (P : Program) (t : Tm) (H : Heap) (K : Value → Heap → Prop) (x : Operand) : wpI P (.mark x) t H K = (goO (sMark H (ev t x)) (fun v => K v H)) := by rw [wpI_step rfl]; simp only [step, goO_map]
@[simp ↓] theorem wpI_make (P : Program) (t : Tm) (H : Heap) (K : Value → Heap → Prop) (ety : TypeId) (sz bytes : Nat) (z : List Value) (l c : Operand) : wpI P (.make ety sz bytes z l c) t H K = (goO (sMake H ety sz bytes z (ev t l) (ev t c)) (fun p => K p.1 p.2)) := by rw [wpI_step rfl]; rfl
@[simp ↓] theorem wpI_append (P : Program) (t : Tm) (H : Heap) (K : Value → Heap → Prop) (ety : TypeId) (sz bytes : Nat) (x y : Operand) : wpI P (.append ety sz bytes x y) t H K = (goO (sAppend H ety sz bytes (ev t x) (ev t y)) (fun p => K p.1 p.2)) := by rw [wpI_step rfl]; rfl
@[simp ↓] theorem wpI_copy (P : Program) (t : Tm) (H : Heap) (K : Value → Heap → Prop) (sz : Nat) (x y : Operand) : wpI P (.copy sz x y) t H K = (goO (sCopy H sz (ev t x) (ev t y)) (fun p => K p.1 p.2)) := by rw [wpI_step rfl]; rfl
theorem step_lookup (H : Heap) (t : Tm) (d : TypeDesc) (z : Value) (c : Bool) (x i : Operand) : step H t (.lookup d z c x i) = (sLookup H d z c (ev t x) (ev t i)).map (·, H) := rfl
@[simp ↓] theorem wpI_lookup (P : Program) (t : Tm) (H : Heap) (K : Value → Heap → Prop) (d : TypeDesc) (z : Value) (c : Bool) (x i : Operand) : wpI P (.lookup d z c x i) t H K = goO (sLookup H d z c (ev t x) (ev t i)) (fun v => K v H) := by rw [wpI_step rfl, step_lookup, goO_map]
@[simp ↓] theorem wpP_lookup (P : Program) (t : Tm) (H : Heap) (K : Value → Prop) (d : TypeDesc) (z : Value) (c : Bool) (x i : Operand) : wpP P (.lookup d z c x i) t H K = goO (sLookup H d z c (ev t x) (ev t i)) K := wpP_map rfl (step_lookup H t d z c x i)
@[simp ↓] theorem do_lookup (P : Program) (t : Tm) (H : Heap) (v : Value) (d : TypeDesc) (z : Value) (c : Bool) (x i : Operand) : Do P t H (.lookup d z c x i) v H = ((sLookup H d z c (ev t x) (ev t i)) = some v) := by
  have h := step_lookup H t d z c x i
  have e : Do P t H (.lookup d z c x i) v H = (step H t (.lookup d z c x i) = some (v, H)) := rfl
  rw [e, h]
  cases (sLookup H d z c (ev t x) (ev t i)) <;> simp
theorem step_lenM (H : Heap) (t : Tm) (x : Operand) : step H t (.lenM x) = (sLenM H (ev t x)).map (·, H) := rfl
@[simp ↓] theorem wpI_lenM (P : Program) (t : Tm) (H : Heap) (K : Value → Heap → Prop) (x : Operand) : wpI P (.lenM x) t H K = goO (sLenM H (ev t x)) (fun v => K v H) := by rw [wpI_step rfl, step_lenM, goO_map]
@[simp ↓] theorem wpP_lenM (P : Program) (t : Tm) (H : Heap) (K : Value → Prop) (x : Operand) : wpP P (.lenM x) t H K = goO (sLenM H (ev t x)) K := wpP_map rfl (step_lenM H t x)
@[simp ↓] theorem do_lenM (P : Program) (t : Tm) (H : Heap) (v : Value) (x : Operand) : Do P t H (.lenM x) v H = ((sLenM H (ev t x)) = some v) := by
  have h := step_lenM H t x
  have e : Do P t H (.lenM x) v H = (step H t (.lenM x) = some (v, H)) := rfl
  rw [e, h]
  cases (sLenM H (ev t x)) <;> simp
theorem step_assert (H : Heap) (t : Tm) (ty : TypeId) (z : Value) (c : Bool) (x : Operand) : step H t (.assert ty z c x) = (sAssert ty z c (ev t x)).map (·, H) := rfl
@[simp ↓] theorem wpI_assert (P : Program) (t : Tm) (H : Heap) (K : Value → Heap → Prop) (ty : TypeId) (z : Value) (c : Bool) (x : Operand) : wpI P (.assert ty z c x) t H K = goO (sAssert ty z c (ev t x)) (fun v => K v H) := by rw [wpI_step rfl, step_assert, goO_map]
@[simp ↓] theorem wpP_assert (P : Program) (t : Tm) (H : Heap) (K : Value → Prop) (ty : TypeId) (z : Value) (c : Bool) (x : Operand) : wpP P (.assert ty z c x) t H K = goO (sAssert ty z c (ev t x)) K := wpP_map rfl (step_assert H t ty z c x)
@[simp ↓] theorem do_assert (P : Program) (t : Tm) (H : Heap) (v : Value) (ty : TypeId) (z : Value) (c : Bool) (x : Operand) : Do P t H (.assert ty z c x) v H = ((sAssert ty z c (ev t x)) = some v) := by
  have h := step_assert H t ty z c x
  have e : Do P t H (.assert ty z c x) v H = (step H t (.assert ty z c x) = some (v, H)) := rfl
  rw [e, h]
  cases (sAssert ty z c (ev t x)) <;> simp
@[simp ↓] theorem wpI_makeMap (P : Program) (t : Tm) (H : Heap) (K : Value → Heap → Prop) : wpI P .makeMap t H K = (K (.map (some H.next)) (H.new 0 0 (mcells 0 []))) := by rw [wpI_step rfl]; rfl
@[simp ↓] theorem wpI_mapUpdate (P : Program) (t : Tm) (H : Heap) (K : Value → Heap → Prop) (d : TypeDesc) (x k v : Operand) : wpI P (.mapUpdate d x k v) t H K = (goO (sMapUpdate H d (ev t x) (ev t k) (ev t v)) (fun H2 => K undef H2)) := by rw [wpI_step rfl]; simp only [step, goO_map]
@[simp ↓] theorem wpI_mapEntry (P : Program) (t : Tm) (H : Heap) (K : Value → Heap → Prop) (d : TypeDesc) (z : Value) (x k : Operand) : wpI P (.mapEntry d z x k) t H K = (goO (sMapEntry H d z (ev t x) (ev t k)) (fun p => K p.1 p.2)) := by rw [wpI_step rfl]; rfl
@[simp ↓] theorem wpI_entryStore (P : Program) (t : Tm) (H : Heap) (K : Value → Heap → Prop) (x s v : Operand) : wpI P (.entryStore x s v) t H K = (goO (sEntryStore H (ev t x) (ev t s) (ev t v)) (fun H2 => K undef H2)) := by rw [wpI_step rfl]; simp only [step, goO_map]
@[simp ↓] theorem wpI_rangeM (P : Program) (t : Tm) (H : Heap) (K : Value → Heap → Prop) (x : Operand) : wpI P (.rangeM x) t H K = (goO (sRange H (ev t x)) (fun p => K p.1 p.2)) := by rw [wpI_step rfl]; rfl
@[simp ↓] theorem wpI_nextM (P : Program) (t : Tm) (H : Heap) (K : Value → Heap → Prop) (x : Operand) : wpI P (.nextM x) t H K = (goO (sNext H (ev t x)) (fun p => K p.1 p.2)) := by rw [wpI_step rfl]; rfl
@[simp ↓] theorem wpI_entryM (P : Program) (t : Tm) (H : Heap) (K : Value → Heap → Prop) (x : Operand) : wpI P (.entryM x) t H K = (goO (sEntry H (ev t x)) (fun v => K v H)) := by rw [wpI_step rfl]; simp only [step, goO_map]
@[simp ↓] theorem wpI_delete (P : Program) (t : Tm) (H : Heap) (K : Value → Heap → Prop) (d : TypeDesc) (x k : Operand) : wpI P (.delete d x k) t H K = (goO (sDelete H d (ev t x) (ev t k)) (fun H2 => K undef H2)) := by rw [wpI_step rfl]; simp only [step, goO_map]
@[simp ↓] theorem wpI_clear (P : Program) (t : Tm) (H : Heap) (K : Value → Heap → Prop) (sz : Nat) (z : List Value) (x : Operand) : wpI P (.clear sz z x) t H K = (goO (sClear H sz z (ev t x)) (fun H2 => K undef H2)) := by rw [wpI_step rfl]; simp only [step, goO_map]
/-- Two structs or arrays in which no address stands are compared. -/
def goE (P : Program) (neq : Bool) (xT : TypeId) (x y : Value) (H : Heap) (K : Value → Heap → Prop) : Prop :=
  ∃ xs ys b, x = .agg xs ∧ y = .agg ys ∧ xs.toList.all plain1 = true ∧ ys.toList.all plain1 = true ∧ (∀ w, (Op.equal xT (.agg xs) (.agg ys)).run P w = .ok b w) ∧ K (.bool (if neq then !b else b)) H
@[congr] theorem goE_congr {P : Program} {neq : Bool} {xT : TypeId} {x x' y y' : Value} {H : Heap} {K : Value → Heap → Prop} (h : x = x') (h2 : y = y') : goE P neq xT x y H K = goE P neq xT x' y' H K := by rw [h, h2]
theorem wpI_eqR0 (P : Program) (t : Tm) (H : Heap) (K : Value → Heap → Prop) (neq : Bool) (xT : TypeId) (x y : Operand) : wpI P (.eqR neq xT x y) t H K = goE P neq xT (ev t x) (ev t y) H K := by
  refine propext ⟨?_, ?_⟩
  · rintro ⟨v, H2, ⟨rfl, xs, ys, b, h1, h2, h3, h4, h5, rfl⟩, h6⟩; exact ⟨xs, ys, b, h1, h2, h3, h4, h5, h6⟩
  · rintro ⟨xs, ys, b, h1, h2, h3, h4, h5, h6⟩; exact ⟨_, H, ⟨rfl, xs, ys, b, h1, h2, h3, h4, h5, rfl⟩, h6⟩
theorem wpP_eqR0 (P : Program) (t : Tm) (H : Heap) (K : Value → Prop) (neq : Bool) (xT : TypeId) (x y : Operand) : wpP P (.eqR neq xT x y) t H K = goE P neq xT (ev t x) (ev t y) H (fun v _ => K v) := by
  refine propext ⟨?_, ?_⟩
  · rintro ⟨v, ⟨_, xs, ys, b, h1, h2, h3, h4, h5, rfl⟩, h6⟩; exact ⟨xs, ys, b, h1, h2, h3, h4, h5, h6⟩
  · rintro ⟨xs, ys, b, h1, h2, h3, h4, h5, h6⟩; exact ⟨_, ⟨rfl, xs, ys, b, h1, h2, h3, h4, h5, rfl⟩, h6⟩



@[simp] theorem sLenS_s (s : ByteArray) : sLenS (.string s) = some (.int .i64 s.size) := _root_.id rfl
@[simp] theorem sLenL_s (a : Option Addr) (n c : Nat) : sLenL (.slice a n c) = some (.int .i64 n) := _root_.id rfl
@[simp] theorem sEqB_b (neq a b : Bool) : sEqB neq (.bool a) (.bool b) = some (.bool (if neq then !(a == b) else a == b)) := _root_.id rfl
@[simp] theorem sPick_t (a b : Value) : sPick (.bool true) a b = some a := _root_.id rfl
@[simp] theorem sPick_f (a b : Value) : sPick (.bool false) a b = some b := _root_.id rfl
@[simp] theorem sNilCheck_s (a : Addr) : sNilCheck (.pointer (some a)) = some (.pointer (some a)) := _root_.id rfl
@[simp] theorem sNilCheck_i (t : TypeId) (v : Value) : sNilCheck (.iface t v) = some (.iface t v) := _root_.id rfl
@[simp] theorem sNilCheck_fn (f : FuncId) (a b : Array Value) : sNilCheck (.func (.func f) a b) = some (.func (.func f) a b) := _root_.id rfl
@[simp] theorem sAssert_i (ty t : TypeId) (z v : Value) (c : Bool) : sAssert ty z c (.iface t v) = if t = ty then some (if c then .tuple #[v, .bool true] else v) else if c then some (.tuple #[z, .bool false]) else none := _root_.id rfl
@[simp] theorem sAssert_n (ty : TypeId) (z : Value) (c : Bool) : sAssert ty z c .nilIface = if c then some (.tuple #[z, .bool false]) else none := _root_.id rfl
@[simp] theorem sOff_s (k : Nat) (b off : Nat) : sOff k (.pointer (some ⟨b, off, none⟩)) = some (.pointer (some ⟨b, off + k, none⟩)) := by simp [sOff, add_own]
@[simp] theorem sLoad_f (H : Heap) (n : Nat) (a : Addr) : sLoad H false n (.pointer (some a)) = H.load a := _root_.id rfl
@[simp] theorem sLoad_t (H : Heap) (n : Nat) (a : Addr) : sLoad H true n (.pointer (some a)) = (H.loadN a 0 n).map (fun xs => .agg xs.toArray) := _root_.id rfl
@[simp] theorem sUn_not (b : Bool) : sUn .not (.bool b) = some (.bool (!b)) := _root_.id rfl
@[simp] theorem sConv_i (k k' : IntKind) (n : Int) : sConv k (.int k' n) = some (.int k (k.wrap n)) := _root_.id rfl
@[simp] theorem sBin_add (k : IntKind) (a b : Int) : sBin .add (.int k a) (.int k b) = some (.int k (k.wrap (a + b))) := by simp [sBin, iBin]
@[simp] theorem sBin_sub (k : IntKind) (a b : Int) : sBin .sub (.int k a) (.int k b) = some (.int k (k.wrap (a - b))) := by simp [sBin, iBin]
@[simp] theorem sBin_mul (k : IntKind) (a b : Int) : sBin .mul (.int k a) (.int k b) = some (.int k (k.wrap (a * b))) := by simp [sBin, iBin]
theorem sBin_quo (k : IntKind) (a b : Int) : sBin .quo (.int k a) (.int k b) = if b = 0 then none else some (.int k (k.wrap (a.tdiv b))) := by simp [sBin, iBin]
theorem sBin_rem (k : IntKind) (a b : Int) : sBin .rem (.int k a) (.int k b) = if b = 0 then none else some (.int k (a.tmod b)) := by simp [sBin, iBin]
@[simp] theorem sBin_eql (k : IntKind) (a b : Int) : sBin .eql (.int k a) (.int k b) = some (.bool (a == b)) := by simp [sBin, iBin]
@[simp] theorem sBin_neq (k : IntKind) (a b : Int) : sBin .neq (.int k a) (.int k b) = some (.bool (a != b)) := by simp [sBin, iBin]
@[simp] theorem sBin_lss (k : IntKind) (a b : Int) : sBin .lss (.int k a) (.int k b) = some (.bool (decide (a < b))) := by simp [sBin, iBin]
@[simp] theorem sBin_leq (k : IntKind) (a b : Int) : sBin .leq (.int k a) (.int k b) = some (.bool (decide (a ≤ b))) := by simp [sBin, iBin]
@[simp] theorem sBin_gtr (k : IntKind) (a b : Int) : sBin .gtr (.int k a) (.int k b) = some (.bool (decide (b < a))) := by simp [sBin, iBin]
@[simp] theorem sBin_geq (k : IntKind) (a b : Int) : sBin .geq (.int k a) (.int k b) = some (.bool (decide (b ≤ a))) := by simp [sBin, iBin]
@[simp] theorem sIdx_s (sz b off n c : Nat) (k : IntKind) (i : Int) : sIdx sz (.slice (some ⟨b, off, none⟩) n c) (.int k i) = if 0 ≤ i ∧ i < n then some (.pointer (some ⟨b, off + i.toNat * sz, none⟩)) else none := by simp [sIdx, add_own]
@[simp] theorem notTup_int (k : IntKind) (n : Int) : notTup (.int k n) = true := _root_.id rfl
@[simp] theorem notTup_bool (b : Bool) : notTup (.bool b) = true := _root_.id rfl
@[simp] theorem notTup_string (b : ByteArray) : notTup (.string b) = true := _root_.id rfl
@[simp] theorem notTup_ptr (b : Option Addr) : notTup (.pointer b) = true := _root_.id rfl
@[simp] theorem notTup_slice (b : Option Addr) (n c : Nat) : notTup (.slice b n c) = true := _root_.id rfl
@[simp] theorem notTup_agg (l : Array Value) : notTup (.agg l) = true := _root_.id rfl
@[simp] theorem cells_int (k : IntKind) (n : Int) : (Value.int k n).cells = #[.int k n] := _root_.id rfl
@[simp] theorem cells_bool (b : Bool) : (Value.bool b).cells = #[.bool b] := _root_.id rfl
@[simp] theorem cells_string (b : ByteArray) : (Value.string b).cells = #[.string b] := _root_.id rfl
@[simp] theorem cells_ptr (b : Option Addr) : (Value.pointer b).cells = #[.pointer b] := _root_.id rfl
@[simp] theorem cells_slice (b : Option Addr) (n c : Nat) : (Value.slice b n c).cells = #[.slice b n c] := _root_.id rfl
@[simp] theorem cells_agg (l : Array Value) : (Value.agg l).cells = l := _root_.id rfl
@[simp] theorem packV_one (v : Value) : packV [v] = v := _root_.id rfl
@[simp] theorem packV_two (v w : Value) (l : List Value) : packV (v :: w :: l) = .tuple (v :: w :: l).toArray := _root_.id rfl

/-! ### shapes -/
theorem w64 (n : Int) (h : -9223372036854775808 ≤ n ∧ n ≤ 9223372036854775807) : IntKind.i64.wrap n = n := IntWalk.i64_in n h
theorem sStore_single (H : Heap) (a : Addr) {v : Value} (h : v.cells = #[v]) (hn : notTup v = true) : sStore H 1 (.pointer (some a)) v = H.store a v := by
  simp only [sStore, h, hn]
  simp only [Heap.storeN, Addr.add_zero']
  simp
@[simp] theorem sStore_int (H : Heap) (a : Addr) (k : IntKind) (n : Int) : sStore H 1 (.pointer (some a)) (.int k n) = H.store a (.int k n) := sStore_single H a rfl rfl
@[simp] theorem sStore_bool (H : Heap) (a : Addr) (b : Bool) : sStore H 1 (.pointer (some a)) (.bool b) = H.store a (.bool b) := sStore_single H a rfl rfl
@[simp] theorem sStore_string (H : Heap) (a : Addr) (b : ByteArray) : sStore H 1 (.pointer (some a)) (.string b) = H.store a (.string b) := sStore_single H a rfl rfl
@[simp] theorem sStore_ptr (H : Heap) (a : Addr) (b : Option Addr) : sStore H 1 (.pointer (some a)) (.pointer b) = H.store a (.pointer b) := sStore_single H a rfl rfl
@[simp] theorem sStore_slice (H : Heap) (a : Addr) (b : Option Addr) (n c : Nat) : sStore H 1 (.pointer (some a)) (.slice b n c) = H.store a (.slice b n c) := sStore_single H a rfl rfl
@[simp] theorem sStore_func (H : Heap) (a : Addr) (f : Fn) (x y : Array Value) : sStore H 1 (.pointer (some a)) (.func f x y) = H.store a (.func f x y) := sStore_single H a rfl rfl
@[simp] theorem sStore_iface (H : Heap) (a : Addr) (t : TypeId) (x : Value) : sStore H 1 (.pointer (some a)) (.iface t x) = H.store a (.iface t x) := sStore_single H a rfl rfl
@[simp] theorem sStore_nilI (H : Heap) (a : Addr) : sStore H 1 (.pointer (some a)) .nilIface = H.store a .nilIface := sStore_single H a rfl rfl
@[simp] theorem sStore_nilF (H : Heap) (a : Addr) : sStore H 1 (.pointer (some a)) .nilFunc = H.store a .nilFunc := sStore_single H a rfl rfl
@[simp] theorem sStore_map (H : Heap) (a : Addr) (m : Option Nat) : sStore H 1 (.pointer (some a)) (.map m) = H.store a (.map m) := sStore_single H a rfl rfl
theorem sStore_agg (H : Heap) (a : Addr) (n : Nat) (l : List Value) (h : l.length = n) (hn : 0 < n) : sStore H n (.pointer (some a)) (.agg l.toArray) = Heap.storeN a 0 l H := by
  simp only [sStore, cells_agg, notTup_agg, List.size_toArray]
  simp [h, hn]
@[simp] theorem sSlice_hi (sz : Nat) (a : Addr) (n : Nat) (k : IntKind) (i : Int) : sSlice sz (.slice (some a) n 0) none (some (.int k i)) none = if 0 ≤ i ∧ i ≤ n then some (.slice (some a) i.toNat 0) else none := by
  by_cases h0 : 0 ≤ i
  · by_cases h1 : i ≤ n
    · have h2 : i.toNat ≤ n := by omega
      simp [sSlice, bnd, h0, h1, h2, Addr.add_zero']
    · have h2 : ¬ i.toNat ≤ n := by omega
      simp [sSlice, bnd, h0, h1, h2]
  · simp [sSlice, bnd, h0]
@[simp] theorem sSlice_lo (sz b off : Nat) (n c : Nat) (k : IntKind) (i : Int) : sSlice sz (.slice (some ⟨b, off, none⟩) n c) (some (.int k i)) none none = if 0 ≤ i ∧ i ≤ n then some (.slice (some ⟨b, off + i.toNat * sz, none⟩) (n - i.toNat) (if i = 0 then c else 2)) else none := by
  by_cases h0 : 0 ≤ i
  · by_cases h1 : i ≤ n
    · have h2 : i.toNat ≤ n := by omega
      have h3 : i.toNat = 0 ↔ i = 0 := by omega
      by_cases hz : i = 0
      · subst hz; simp [sSlice, bnd, add_own]; intro hc; exact hc.symm
      · have : ¬ i.toNat = 0 := by omega
        simp [sSlice, bnd, h0, h1, h2, add_own, hz, this]
    · have h2 : ¬ i.toNat ≤ n := by omega
      simp [sSlice, bnd, h0, h1, h2]
  · simp [sSlice, bnd, h0]
@[simp] theorem sExtract_s (vs : Array Value) (i : Nat) : sExtract (.tuple vs) i = vs[i]? := _root_.id rfl
@[simp] theorem fitsNil_ptr (t : TypeId) (a : Option Addr) : fitsNil (.pointer t) (.pointer a) = true := _root_.id rfl
@[simp] theorem fitsNil_slice (t : TypeId) (a : Option Addr) (n c : Nat) : fitsNil (.slice t) (.slice a n c) = true := _root_.id rfl
@[simp] theorem fitsNil_map (t u : TypeId) (a : Option Nat) : fitsNil (.map t u) (.map a) = true := _root_.id rfl
@[simp] theorem isNil_ptr (a : Option Addr) : isNil (.pointer a) = some a.isNone := _root_.id rfl
@[simp] theorem isNil_slice (a : Option Addr) (n c : Nat) : isNil (.slice a n c) = some a.isNone := _root_.id rfl
@[simp] theorem isNil_map (a : Option Nat) : isNil (.map a) = some a.isNone := _root_.id rfl
@[simp] theorem sUn_neg (k : IntKind) (n : Int) : sUn .neg (.int k n) = some (.int k (k.wrap (0 - n))) := _root_.id rfl
@[simp] theorem sFld_f (off n : Nat) (cs : Array Value) : sFld false off n (.agg cs) = cs.toList[off]? := by simp [sFld, sPart]
@[simp] theorem sFld_t (off n : Nat) (cs : Array Value) : sFld true off n (.agg cs) = if off + n ≤ cs.toList.length then some (.agg ((cs.toList.drop off).take n).toArray) else none := by simp [sFld, sPart]
@[simp] theorem sIdxAgg_f (len n : Nat) (cs : Array Value) (k : IntKind) (i : Int) : sIdxAgg false len n (.agg cs) (.int k i) = if 0 ≤ i ∧ i < len then cs.toList[i.toNat * n]? else none := by simp [sIdxAgg, sPart]
@[simp] theorem sSame_s (b : ByteArray) : sSame (.string b) = some (.string b) := _root_.id rfl
@[simp] theorem sMM_s (mx : Bool) (k : IntKind) (n : Int) (l : List Value) : sMM mx (.int k n) l = sMinMax mx (.int k n) l := _root_.id rfl
@[simp] theorem sMinMax_nil (mx : Bool) (x : Value) : sMinMax mx x [] = some x := by simp [sMinMax]
@[simp] theorem sMinMax_cons (mx : Bool) (k k' : IntKind) (x y : Int) (l : List Value) : sMinMax mx (.int k x) (.int k' y :: l) = sMinMax mx (.int k (if mx then (if y > x then y else x) else (if y < x then y else x))) l := by simp [sMinMax]
attribute [simp] blk_new blk_put blk_kill

/-! ### what is next: a heap that is ready -/
def rdy (H : Heap) : Heap := H
@[simp] theorem rdy_load (H : Heap) (a : Addr) : (rdy H).load a = H.load a := _root_.id rfl
@[simp] theorem rdy_loadN (H : Heap) (a : Addr) (i n : Nat) : (rdy H).loadN a i n = H.loadN a i n := _root_.id rfl
@[simp] theorem rdy_blk (H : Heap) : (rdy H).blk = H.blk := _root_.id rfl
@[simp] theorem rdy_B (H : Heap) : (rdy H).B = H.B := _root_.id rfl
@[simp] theorem rdy_next (H : Heap) : (rdy H).next = H.next := _root_.id rfl
@[simp] theorem rdy_base (H : Heap) : (rdy H).base = H.base := _root_.id rfl
@[simp] theorem rdy_sLoad (H : Heap) (b : Bool) (n : Nat) (x : Value) : sLoad (rdy H) b n x = sLoad H b n x := _root_.id rfl
@[simp] theorem rdy_sLookup (H : Heap) (d : TypeDesc) (z : Value) (c : Bool) (x k : Value) : sLookup (rdy H) d z c x k = sLookup H d z c x k := _root_.id rfl
@[simp] theorem rdy_sLenM (H : Heap) (x : Value) : sLenM (rdy H) x = sLenM H x := _root_.id rfl
@[simp] theorem rdy_sToStr (H : Heap) (x : Value) : sToStr (rdy H) x = sToStr H x := _root_.id rfl
def goT (P : Program) (f : FuncId) (args : List Value) (H : Heap) (K : Value → Heap → Prop) : Prop := ∃ v H', T P f args H v H' ∧ K v H'
@[congr] theorem goT_congr {P : Program} {f : FuncId} {args args' : List Value} {H H' : Heap} {K : Value → Heap → Prop} (h : args = args') (h2 : H = H') : goT P f args H K = goT P f args' H' K := by rw [h, h2]
theorem goT_of {P : Program} {f : FuncId} {args : List Value} {H H' : Heap} {v : Value} {K : Value → Heap → Prop} (h : T P f args H v H') (hk : K v (rdy H')) : goT P f args H K := ⟨v, H', h, hk⟩
def goTV (P : Program) (x : Value) (args : List Value) (H : Heap) (K : Value → Heap → Prop) : Prop := ∃ v H', TV P x args H v H' ∧ K v H'
@[congr] theorem goTV_congr {P : Program} {x x' : Value} {args args' : List Value} {H H' : Heap} {K : Value → Heap → Prop} (h0 : x = x') (h : args = args') (h2 : H = H') : goTV P x args H K = goTV P x' args' H' K := by rw [h0, h, h2]
theorem goTV_of {P : Program} {x : Value} {args : List Value} {H H' : Heap} {v : Value} {K : Value → Heap → Prop} (h : TV P x args H v H') (hk : K v (rdy H')) : goTV P x args H K := ⟨v, H', h, hk⟩
def goTI (P : Program) (x : Value) (name : String) (args : List Value) (H : Heap) (K : Value → Heap → Prop) : Prop := ∃ v H', TI P x name args H v H' ∧ K v H'
@[congr] theorem goTI_congr {P : Program} {x x' : Value} {name : String} {args args' : List Value} {H H' : Heap} {K : Value → Heap → Prop} (h0 : x = x') (h : args = args') (h2 : H = H') : goTI P x name args H K = goTI P x' name args' H' K := by rw [h0, h, h2]
theorem goTI_of {P : Program} {x : Value} {name : String} {args : List Value} {H H' : Heap} {v : Value} {K : Value → Heap → Prop} (h : TI P x name args H v H') (hk : K v (rdy H')) : goTI P x name args H K := ⟨v, H', h, hk⟩
def force (v : Value) (K : Value → Prop) : Prop := K v
@[congr] theorem force_congr {v v' : Value} {K : Value → Prop} (h : v = v') : force v K = force v' K := by rw [h]
@[simp] theorem force_eq (v : Value) (K : Value → Prop) : force v K = K v := _root_.id rfl
@[simp ↓] theorem wpI_move' (P : Program) (t : Tm) (H : Heap) (K : Value → Heap → Prop) (x : Operand) : wpI P (.move x) t H K = force (ev t x) (fun v => K v H) := wpI_move P t H K x
@[simp ↓] theorem wpP_move' (P : Program) (t : Tm) (H : Heap) (K : Value → Prop) (x : Operand) : wpP P (.move x) t H K = force (ev t x) K := wpP_move P t H K x
attribute [simp] goO_some goO_none goO_ite goO_map goO_bind goC_bool goB_true goB_false
@[simp ↓] theorem goO_some' {α : Type} (a : α) (K : α → Prop) : goO (some a) K = K a := _root_.id rfl
@[simp ↓] theorem goO_ite' {α : Type} (c : Prop) [Decidable c] (o : Option α) (K : α → Prop) : goO (if c then o else none) K = (c ∧ goO o K) := goO_ite c o K
@[simp ↓] theorem goO_map' {α β : Type} (o : Option α) (f : α → β) (K : β → Prop) : goO (o.map f) K = goO o (fun a => K (f a)) := goO_map o f K
@[simp ↓] theorem goO_bind' {α β : Type} (o : Option α) (f : α → Option β) (K : β → Prop) : goO (o.bind f) K = goO o (fun a => goO (f a) K) := goO_bind o f K
@[simp] theorem goO_iteN {α : Type} (c : Prop) [Decidable c] (o : Option α) (K : α → Prop) : goO (if c then none else o) K = (¬ c ∧ goO o K) := by by_cases h : c <;> simp [goO, h]
@[simp ↓] theorem goC_true (A B : Prop) : goC (.bool true) A B = A := _root_.id rfl
@[simp ↓] theorem goC_false (A B : Prop) : goC (.bool false) A B = B := _root_.id rfl
@[simp ↓] theorem goB_true' (A B : Prop) : goB true A B = A := _root_.id rfl
@[simp ↓] theorem goB_false' (A B : Prop) : goB false A B = B := _root_.id rfl
@[simp] theorem goB_dec (p : Prop) [Decidable p] (A B : Prop) : goB (decide p) A B = if p then A else B := by by_cases h : p <;> simp [goB, h]
@[simp] theorem goB_not (b : Bool) (A B : Prop) : goB (!b) A B = goB b B A := by cases b <;> rfl

/-! ### regions -/
@[simp ↓] theorem wpO_nil' (P : Program) (Q : Tm → Heap → Prop) (t : Tm) (H : Heap) : wpO P [] Q t (rdy H) = Q t (rdy H) := _root_.id rfl
@[simp ↓] theorem wpO_cons (P : Program) (d : Option Nat) (op : LOp) (rest : List LIns) (Q : Tm → Heap → Prop) (t : Tm) (H : Heap) :
    wpO P (⟨d, op, none⟩ :: rest) Q t (rdy H) = wpI P op t H (fun v H' => wpO P rest Q (put t d v) (rdy H')) := by
  simp only [wpO, wantedL, if_true, wpI, rdy]
@[simp ↓ high] theorem wpO_call' (P : Program) (d : Option Nat) (f : FuncId) (args : List Operand) (rest : List LIns) (Q : Tm → Heap → Prop) (t : Tm) (H : Heap) :
    wpO P (⟨d, .call f args, none⟩ :: rest) Q t (rdy H) = goT P f (args.map (ev t)) H (fun v H' => wpO P rest Q (put t d v) H') := _root_.id rfl
@[simp ↓ high] theorem wpO_callv' (P : Program) (d : Option Nat) (x : Operand) (args : List Operand) (rest : List LIns) (Q : Tm → Heap → Prop) (t : Tm) (H : Heap) :
    wpO P (⟨d, .callv x args, none⟩ :: rest) Q t (rdy H) = goTV P (ev t x) (args.map (ev t)) H (fun v H' => wpO P rest Q (put t d v) H') := _root_.id rfl
@[simp ↓ high] theorem wpO_invoke' (P : Program) (d : Option Nat) (x : Operand) (name : String) (args : List Operand) (rest : List LIns) (Q : Tm → Heap → Prop) (t : Tm) (H : Heap) :
    wpO P (⟨d, .invoke x name args, none⟩ :: rest) Q t (rdy H) = goTI P (ev t x) name (args.map (ev t)) H (fun v H' => wpO P rest Q (put t d v) H') := _root_.id rfl
theorem goE_of {P : Program} {neq : Bool} {xT : TypeId} {xs ys : Array Value} {b : Bool} {H : Heap} {K : Value → Heap → Prop} (hx : xs.toList.all plain1 = true) (hy : ys.toList.all plain1 = true) (hr : ∀ w, (Op.equal xT (.agg xs) (.agg ys)).run P w = .ok b w)
    (hk : K (.bool (if neq then !b else b)) (rdy H)) : goE P neq xT (.agg xs) (.agg ys) H K := ⟨xs, ys, b, rfl, rfl, hx, hy, hr, hk⟩
@[simp ↓ high] theorem wpO_eqR' (P : Program) (d : Option Nat) (neq : Bool) (xT : TypeId) (x y : Operand) (rest : List LIns) (Q : Tm → Heap → Prop) (t : Tm) (H : Heap) :
    wpO P (⟨d, .eqR neq xT x y, none⟩ :: rest) Q t (rdy H) = goE P neq xT (ev t x) (ev t y) H (fun v H' => wpO P rest Q (put t d v) H') := by
  rw [← wpI_eqR0]; simp only [wpO, wantedL, if_true, wpI, rdy]
@[simp ↓] theorem wpO_guard (P : Program) (d : Option Nat) (op : LOp) (g : Nat × Bool) (rest : List LIns) (Q : Tm → Heap → Prop) (t : Tm) (H : Heap) :
    wpO P (⟨d, op, some g⟩ :: rest) Q t (rdy H) = goB (wantedL (some g) t) (wpO P (⟨d, op, none⟩ :: rest) Q t (rdy H)) (wpO P rest Q (put t d undef) (rdy H)) := by
  rw [← goB_ite]; simp only [wpO, wantedL, if_true, rdy]; rfl
def wantB (b : Bool) (v : Value) : Bool := match v with | .bool c => c == b | _ => false
@[simp ↓] theorem wantedL_some (s : Nat) (b : Bool) (t : Tm) : wantedL (some (s, b)) t = wantB b (t s) := _root_.id rfl
@[simp] theorem wantB_bool (b c : Bool) : wantB b (.bool c) = (c == b) := _root_.id rfl
@[simp ↓] theorem wpD_nil' (P : Program) (H : Heap) (hs : List Heap) (pend : List Pend) (Q : Tm → Heap → Prop) (t : Tm) : wpD P [] (rdy H :: hs) pend Q t = Q t (rdy H) := _root_.id rfl
@[simp ↓] theorem wpD_pure' (P : Program) (d : Option Nat) (op : LOp) (lo hi : Nat) (rest : List DIns) (H : Heap) (hs : List Heap) (pend : List Pend) (Q : Tm → Heap → Prop) (t : Tm) :
    wpD P (⟨⟨d, op, none⟩, .pure, lo, hi⟩ :: rest) (rdy H :: hs) pend Q t = wpP P op t H (fun v => wpD P rest (rdy H :: hs) pend Q (put t d v)) := by
  simp only [wpD, wantedL, if_true, wpP, rdy]
@[simp ↓] theorem wpD_pureg (P : Program) (d : Option Nat) (op : LOp) (g : Nat × Bool) (lo hi : Nat) (rest : List DIns) (H : Heap) (hs : List Heap) (pend : List Pend) (Q : Tm → Heap → Prop) (t : Tm) :
    wpD P (⟨⟨d, op, some g⟩, .pure, lo, hi⟩ :: rest) (rdy H :: hs) pend Q t = goB (wantedL (some g) t) (wpP P op t H (fun v => wpD P rest (rdy H :: hs) pend Q (put t d v))) (wpD P rest (rdy H :: hs) pend Q (put t d undef)) := by
  rw [← goB_ite]; simp only [wpD, wpP, rdy]
@[simp ↓] theorem wpD_read (P : Program) (d : Option Nat) (op : LOp) (lo hi : Nat) (rest : List DIns) (H : Heap) (hs : List Heap) (pend : List Pend) (Q : Tm → Heap → Prop) (t : Tm) :
    wpD P (⟨⟨d, op, none⟩, .read, lo, hi⟩ :: rest) (rdy H :: hs) pend Q t = wpP P op t H (fun v => (∀ H2 ∈ hs.take (hs.length - lo), Do P t H2 op v H2) ∧ wpD P rest (rdy H :: hs) (⟨t, op, v, hi⟩ :: pend) Q (put t d v)) := by
  simp only [wpD, wantedL, if_true, wpP, rdy]
@[simp ↓] theorem wpD_readg (P : Program) (d : Option Nat) (op : LOp) (g : Nat × Bool) (lo hi : Nat) (rest : List DIns) (H : Heap) (hs : List Heap) (pend : List Pend) (Q : Tm → Heap → Prop) (t : Tm) :
    wpD P (⟨⟨d, op, some g⟩, .read, lo, hi⟩ :: rest) (rdy H :: hs) pend Q t = goB (wantedL (some g) t) (wpP P op t H (fun v => (∀ H2 ∈ hs.take (hs.length - lo), Do P t H2 op v H2) ∧ wpD P rest (rdy H :: hs) (⟨t, op, v, hi⟩ :: pend) Q (put t d v))) (wpD P rest (rdy H :: hs) pend Q (put t d undef)) := by
  rw [← goB_ite]; simp only [wpD, wpP, rdy]
@[simp ↓] theorem wpD_heavy (P : Program) (d : Option Nat) (op : LOp) (lo hi : Nat) (rest : List DIns) (H : Heap) (hs : List Heap) (pend : List Pend) (Q : Tm → Heap → Prop) (t : Tm) :
    wpD P (⟨⟨d, op, none⟩, .heavy, lo, hi⟩ :: rest) (rdy H :: hs) pend Q t = wpI P op t H (fun v H' => (∀ p ∈ pend, hs.length + 1 ≤ p.hi → Do P p.t H' p.op p.v H') ∧ wpD P rest (rdy H' :: H :: hs) pend Q (put t d v)) := by
  simp only [wpD, wantedL, if_true, wpI, rdy]
@[simp ↓ high] theorem wpD_call (P : Program) (d : Option Nat) (f : FuncId) (args : List Operand) (lo hi : Nat) (rest : List DIns) (H : Heap) (hs : List Heap) (pend : List Pend) (Q : Tm → Heap → Prop) (t : Tm) :
    wpD P (⟨⟨d, .call f args, none⟩, .heavy, lo, hi⟩ :: rest) (rdy H :: hs) pend Q t = goT P f (args.map (ev t)) H (fun v H' => (∀ p ∈ pend, hs.length + 1 ≤ p.hi → Do P p.t H' p.op p.v H') ∧ wpD P rest (H' :: H :: hs) pend Q (put t d v)) := by
  simp only [wpD, wantedL, if_true, goT, Do, rdy]
@[simp ↓ high] theorem wpD_callv (P : Program) (d : Option Nat) (x : Operand) (args : List Operand) (lo hi : Nat) (rest : List DIns) (H : Heap) (hs : List Heap) (pend : List Pend) (Q : Tm → Heap → Prop) (t : Tm) :
    wpD P (⟨⟨d, .callv x args, none⟩, .heavy, lo, hi⟩ :: rest) (rdy H :: hs) pend Q t = goTV P (ev t x) (args.map (ev t)) H (fun v H' => (∀ p ∈ pend, hs.length + 1 ≤ p.hi → Do P p.t H' p.op p.v H') ∧ wpD P rest (H' :: H :: hs) pend Q (put t d v)) := by
  simp only [wpD, wantedL, if_true, goTV, Do, rdy]
@[simp ↓ high] theorem wpD_invoke (P : Program) (d : Option Nat) (x : Operand) (name : String) (args : List Operand) (lo hi : Nat) (rest : List DIns) (H : Heap) (hs : List Heap) (pend : List Pend) (Q : Tm → Heap → Prop) (t : Tm) :
    wpD P (⟨⟨d, .invoke x name args, none⟩, .heavy, lo, hi⟩ :: rest) (rdy H :: hs) pend Q t = goTI P (ev t x) name (args.map (ev t)) H (fun v H' => (∀ p ∈ pend, hs.length + 1 ≤ p.hi → Do P p.t H' p.op p.v H') ∧ wpD P rest (H' :: H :: hs) pend Q (put t d v)) := by
  simp only [wpD, wantedL, if_true, goTI, Do, rdy]
@[simp ↓ high] theorem wpD_eqR' (P : Program) (d : Option Nat) (neq : Bool) (xT : TypeId) (x y : Operand) (lo hi : Nat) (rest : List DIns) (H : Heap) (hs : List Heap) (pend : List Pend) (Q : Tm → Heap → Prop) (t : Tm) :
    wpD P (⟨⟨d, .eqR neq xT x y, none⟩, .pure, lo, hi⟩ :: rest) (rdy H :: hs) pend Q t = goE P neq xT (ev t x) (ev t y) H (fun v H' => wpD P rest (H' :: hs) pend Q (put t d v)) := by
  have e := wpP_eqR0 P t H (fun v => wpD P rest (H :: hs) pend Q (put t d v)) neq xT x y
  simp only [wpP] at e
  simp only [wpD, wantedL, if_true, rdy]
  rw [e]
  refine propext ⟨?_, ?_⟩
  · rintro ⟨xs, ys, b, h1, h2, h3, h4, h5, h6⟩; exact ⟨xs, ys, b, h1, h2, h3, h4, h5, h6⟩
  · rintro ⟨xs, ys, b, h1, h2, h3, h4, h5, h6⟩; exact ⟨xs, ys, b, h1, h2, h3, h4, h5, h6⟩
@[simp ↓] theorem wpD_heavyg (P : Program) (d : Option Nat) (op : LOp) (g : Nat × Bool) (lo hi : Nat) (rest : List DIns) (H : Heap) (hs : List Heap) (pend : List Pend) (Q : Tm → Heap → Prop) (t : Tm) :
    wpD P (⟨⟨d, op, some g⟩, .heavy, lo, hi⟩ :: rest) (rdy H :: hs) pend Q t = goB (wantedL (some g) t) (wpD P (⟨⟨d, op, none⟩, .heavy, lo, hi⟩ :: rest) (rdy H :: hs) pend Q t)
      ((∀ p ∈ pend, hs.length + 1 ≤ p.hi → Do P p.t H p.op p.v H) ∧ wpD P rest (rdy H :: H :: hs) pend Q (put t d undef)) := by
  rw [← goB_ite]; simp only [wpD, wantedL, if_true, rdy]; rfl
@[simp ↓] theorem pend_nil (k : Nat) (P : Program) (H' : Heap) : (∀ p ∈ ([] : List Pend), k ≤ p.hi → Do P p.t H' p.op p.v H') = True := by simp
@[simp ↓] theorem pend_cons (k : Nat) (P : Program) (H' : Heap) (t : Tm) (op : LOp) (v : Value) (hi : Nat) (l : List Pend) : (∀ p ∈ (⟨t, op, v, hi⟩ : Pend) :: l, k ≤ p.hi → Do P p.t H' p.op p.v H') = ((k ≤ hi → Do P t H' op v H') ∧ ∀ p ∈ l, k ≤ p.hi → Do P p.t H' p.op p.v H') := by simp

/-! ### code -/
@[simp ↓] theorem wpA_skip (P : Program) (Q : Post) (t : Tm) (H : Heap) : wpA P .skip Q t (rdy H) = Q .normal t (rdy H) := _root_.id rfl
@[simp ↓] theorem wpA_region (P : Program) (l : List LIns) (Q : Post) (t : Tm) (H : Heap) : wpA P (.region l) Q t (rdy H) = wpO P l (Q .normal) t (rdy H) := _root_.id rfl
@[simp ↓] theorem wpA_alts_cons (P : Program) (l : List DIns) (ls : List (List DIns)) (Q : Post) (t : Tm) (H : Heap) : wpA P (.alts (l :: ls)) Q t (rdy H) = (wpD P l [rdy H] [] (Q .normal) t ∧ wpA P (.alts ls) Q t (rdy H)) := by
  simp only [wpA, List.forall_mem_cons, rdy]
@[simp ↓] theorem wpA_alts_nil (P : Program) (Q : Post) (t : Tm) (H : Heap) : wpA P (.alts []) Q t (rdy H) = True := by
  simp only [wpA, List.not_mem_nil, false_implies, implies_true]
@[simp ↓] theorem wpA_tree (P : Program) (d : DT) (Q : Post) (t : Tm) (H : Heap) : wpA P (.tree d) Q t (rdy H) = wpT P d (Q .normal) t (rdy H) := _root_.id rfl
@[simp ↓] theorem wpT_done (P : Program) (Q : Tm → Heap → Prop) (t : Tm) (H : Heap) : wpT P .done Q t (rdy H) = Q t (rdy H) := _root_.id rfl
@[simp ↓] theorem wpT_stop (P : Program) (Q : Tm → Heap → Prop) (t : Tm) (H : Heap) : wpT P .stop Q t (rdy H) = True := _root_.id rfl
@[simp ↓] theorem wpT_light (P : Program) (d : Option Nat) (op : LOp) (r : DT) (Q : Tm → Heap → Prop) (t : Tm) (H : Heap) :
    wpT P (.light ⟨d, op, none⟩ r) Q t (rdy H) = wpP P op t H (fun v => wpT P r Q (put t d v) (rdy H)) := by
  simp only [wpT, wantedL, if_true, wpP, rdy]
@[simp ↓] theorem wpT_lightg (P : Program) (d : Option Nat) (op : LOp) (g : Nat × Bool) (r : DT) (Q : Tm → Heap → Prop) (t : Tm) (H : Heap) :
    wpT P (.light ⟨d, op, some g⟩ r) Q t (rdy H) = goB (wantedL (some g) t) (wpP P op t H (fun v => wpT P r Q (put t d v) (rdy H))) (wpT P r Q (put t d undef) (rdy H)) := by
  rw [← goB_ite]; simp only [wpT, wpP, rdy]
@[simp ↓] theorem wpT_again (P : Program) (s : Nat) (op : LOp) (r : DT) (Q : Tm → Heap → Prop) (t : Tm) (H : Heap) :
    wpT P (.again ⟨some s, op, none⟩ r) Q t (rdy H) = (wpP P op t H (fun v => t s = v) ∧ wpT P r Q t (rdy H)) := by
  simp only [wpT, wantedL, if_true, wpP, rdy]
@[simp ↓] theorem wpT_againg (P : Program) (s : Nat) (op : LOp) (g : Nat × Bool) (r : DT) (Q : Tm → Heap → Prop) (t : Tm) (H : Heap) :
    wpT P (.again ⟨some s, op, some g⟩ r) Q t (rdy H) = (goB (wantedL (some g) t) (wpP P op t H (fun v => t s = v)) True ∧ wpT P r Q t (rdy H)) := by
  rw [← goB_ite]; simp only [wpT, wpP, rdy]
@[simp ↓] theorem wpT_fork (P : Program) (d : Option Nat) (op : LOp) (s r : DT) (Q : Tm → Heap → Prop) (t : Tm) (H : Heap) :
    wpT P (.fork ⟨d, op, none⟩ s r) Q t (rdy H) = (wpI P op t H (fun v H' => wpT P s Q (put t d v) (rdy H')) ∧ wpT P r Q t (rdy H)) := by
  simp only [wpT, wantedL, if_true, wpI, rdy]
@[simp ↓ high] theorem wpT_call (P : Program) (d : Option Nat) (f : FuncId) (args : List Operand) (s r : DT) (Q : Tm → Heap → Prop) (t : Tm) (H : Heap) :
    wpT P (.fork ⟨d, .call f args, none⟩ s r) Q t (rdy H) = (goT P f (args.map (ev t)) H (fun v H' => wpT P s Q (put t d v) H') ∧ wpT P r Q t (rdy H)) := by
  simp only [wpT, wantedL, if_true, goT, Do, rdy]
@[simp ↓] theorem wpT_forkg (P : Program) (d : Option Nat) (op : LOp) (g : Nat × Bool) (s r : DT) (Q : Tm → Heap → Prop) (t : Tm) (H : Heap) :
    wpT P (.fork ⟨d, op, some g⟩ s r) Q t (rdy H) = (goB (wantedL (some g) t) (wpT P (.fork ⟨d, op, none⟩ s .stop) Q t (rdy H)) (wpT P s Q (put t d undef) (rdy H)) ∧ wpT P r Q t (rdy H)) := by
  rw [← goB_ite]; simp only [wpT, wantedL, if_true, and_true, rdy]; rfl
@[simp ↓] theorem wpA_draw (P : Program) (l : List DIns) (Q : Post) (t : Tm) (H : Heap) : wpA P (.draw l) Q t (rdy H) = wpD P l [rdy H] [] (Q .normal) t := _root_.id rfl
@[simp ↓] theorem wpA_seq (P : Program) (a b : LCode) (Q : Post) (t : Tm) (H : Heap) : wpA P (.seq a b) Q t (rdy H) = wpA P a (thenA (wpA P b Q) Q) t (rdy H) := _root_.id rfl
@[simp ↓] theorem wpA_block (P : Program) (id : Nat) (c : LCode) (Q : Post) (t : Tm) (H : Heap) : wpA P (.block id c) Q t (rdy H) = wpA P c (blockA id Q) t (rdy H) := _root_.id rfl
@[simp ↓] theorem wpA_exit (P : Program) (id : Nat) (Q : Post) (t : Tm) (H : Heap) : wpA P (.exit id) Q t (rdy H) = Q (.exit id) t (rdy H) := _root_.id rfl
@[simp ↓] theorem wpA_ret (P : Program) (Q : Post) (t : Tm) (H : Heap) : wpA P .ret Q t (rdy H) = Q .ret t (rdy H) := _root_.id rfl
@[simp ↓] theorem wpA_cond (P : Program) (c : Operand) (a b : LCode) (Q : Post) (t : Tm) (H : Heap) : wpA P (.cond c a b) Q t (rdy H) = goC (ev t c) (wpA P a Q t (rdy H)) (wpA P b Q t (rdy H)) := by
  simp only [wpA, goC]
  cases ev t c <;> first | rfl | (rename_i q; cases q <;> rfl)
@[simp ↓] theorem thenA_normal (N : Tm → Heap → Prop) (Q : Post) (t : Tm) (H : Heap) : thenA N Q .normal t H = N t H := _root_.id rfl
@[simp ↓] theorem thenA_ret (N : Tm → Heap → Prop) (Q : Post) (t : Tm) (H : Heap) : thenA N Q .ret t H = Q .ret t H := _root_.id rfl
@[simp ↓] theorem thenA_exit (N : Tm → Heap → Prop) (Q : Post) (id : Nat) (t : Tm) (H : Heap) : thenA N Q (.exit id) t H = Q (.exit id) t H := _root_.id rfl
@[simp ↓] theorem blockA_normal (id : Nat) (Q : Post) (t : Tm) (H : Heap) : blockA id Q .normal t H = Q .normal t H := _root_.id rfl
@[simp ↓] theorem blockA_ret (id : Nat) (Q : Post) (t : Tm) (H : Heap) : blockA id Q .ret t H = Q .ret t H := _root_.id rfl
@[simp ↓] theorem blockA_exit (id id' : Nat) (Q : Post) (t : Tm) (H : Heap) : blockA id Q (.exit id') t H = goB (id' == id) (Q .normal t H) (Q (.exit id') t H) := by
  rw [← goB_ite]
  by_cases h : id' = id <;> simp [blockA, h]
@[simp ↓] theorem EndA_ret (Q : Value → Heap → Prop) (lr : List LRes) (t : Tm) (H : Heap) : EndA Q lr .ret t (rdy H) = goO (resV t H lr) (fun vs => Q (packV vs) H) := by
  unfold EndA goO rdy
  cases h : resV t H lr <;> simp
@[simp ↓] theorem EndA_normal (Q : Value → Heap → Prop) (lr : List LRes) (t : Tm) (H : Heap) : EndA Q lr .normal t (rdy H) = goO (resV t H lr) (fun vs => Q (packV vs) H) := by
  unfold EndA goO rdy
  cases h : resV t H lr <;> simp
@[simp] theorem resV_nil (t : Tm) (H : Heap) : resV t H [] = some [] := _root_.id rfl
@[simp] theorem resV_tmp (t : Tm) (H : Heap) (i : Nat) (rest : List LRes) : resV t H (.tmp i :: rest) = if notTup (t i) then (resV t H rest).map (t i :: ·) else none := _root_.id rfl
@[simp] theorem resV_cell (t : Tm) (H : Heap) (i : Nat) (b : Bool) (k : Nat) (rest : List LRes) : resV t H (.cell i b k :: rest) = (sLoad H b k (t i)).bind fun v => if notTup v then (resV t H rest).map (v :: ·) else none := _root_.id rfl
@[simp ↓] theorem put_some (t : Tm) (d : Nat) (v : Value) (i : Nat) : put t (some d) v i = if i = d then v else t i := _root_.id rfl
@[simp ↓] theorem put_none (t : Tm) (v : Value) : put t none v = t := _root_.id rfl
@[simp ↓] theorem ev_tmp (t : Tm) (i : Nat) : ev t (.tmp i) = t i := _root_.id rfl
@[simp ↓] theorem ev_const (t : Tm) (v : Value) : ev t (.const v) = v := _root_.id rfl
@[simp ↓] theorem initT_def (args : List Value) (i : Nat) : initT args i = args.getD i undef := _root_.id rfl
/-- A loop, by what holds ahead of each round and a number that falls. -/
theorem loop_at {P : Program} {c : LCode} {Q : Post} (I : Nat → Tm → Heap → Prop) (n : Nat) {t : Tm} {H : Heap} (h0 : I n t H)
    (round : ∀ n t H, I n t H → wpA P c (thenA (fun t' H' => ∃ m, m < n ∧ I m t' H') Q) t (rdy H)) : wpA P (.loop c) Q t (rdy H) := loop_rule I h0 round
/-- A contract out of a body. -/
theorem T_by {P : Program} (hm : P.follows .mixedOrders = true) {f : FuncId} {n : Nat} {lc : LCode} {lr : List LRes} {args : List Value} (hL : Light P f args.length n lc lr) {H : Heap} {Q : Value → Heap → Prop}
    (h : wpA P lc (EndA Q lr) (initT args) (rdy H)) : ∃ v H', T P f args H v H' ∧ Q v H' := T_ex hm hL h
theorem T_eq {P : Program} (hm : P.follows .mixedOrders = true) {f : FuncId} {n : Nat} {lc : LCode} {lr : List LRes} {args : List Value} (hL : Light P f args.length n lc lr) {H H' : Heap} {v : Value}
    (h : wpA P lc (EndA (fun v1 H1 => v1 = v ∧ H1 = H') lr) (initT args) (rdy H)) : T P f args H v H' := by
  obtain ⟨v1, H1, h1, rfl, rfl⟩ := T_ex hm hL h
  exact h1
end Go.Ot
