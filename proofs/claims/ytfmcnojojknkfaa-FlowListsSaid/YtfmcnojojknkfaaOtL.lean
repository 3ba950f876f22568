/-
  Part L: light code, its weakest precondition, contracts; regions that run in the order of the text.
-/
import Derived.Test.YtfmcnojojknkfaaOtK
set_option linter.unusedVariables false
set_option linter.unusedSimpArgs false
namespace Go.Ot
open Go.RowKit

/-- The own blocks lie between what was there and the next number. -/
structure Heap.WF (H : Heap) : Prop where
  next : H.B ≤ H.next
  live : ∀ b k, H.blk b = some k → H.B ≤ b ∧ b < H.next
/-- A contract: the function f, called at these values in the heap H, comes to the value v and the heap H'. -/
def T (P : Program) (f : FuncId) (args : List Value) (H : Heap) (v : Value) (H' : Heap) : Prop :=
  H'.base = H.base ∧ H.next ≤ H'.next ∧ (H.WF → H'.WF) ∧ ∀ ρ w (args' : List Value), Rep H ρ w → All2 (r3 (H.cx ρ)) args args' →
    Calls P f args'.toArray w fun e w' => ∃ ρ' v', e = .returned v' ∧ (H.cx ρ).le (H'.cx ρ') ∧ r3 (H'.cx ρ') v v' ∧ Rep H' ρ' w'
/-- A function value is called. -/
def TV (P : Program) (x : Value) (args : List Value) (H : Heap) (v : Value) (H' : Heap) : Prop :=
  ∃ f first captured, x = .func (.func f) first captured ∧ (∃ fn, P.funcs[f]? = some fn ∧ fn.body.isSome = true ∧ (fn.name == "runtime.NumGoroutine") = false) ∧ T P f (first.toList ++ (args ++ captured.toList)) H v H'
/-- A method of an interface's value is called. -/
def TI (P : Program) (x : Value) (name : String) (args : List Value) (H : Heap) (v : Value) (H' : Heap) : Prop :=
  ∃ ty u f mode recv, x = .iface ty u ∧ methodOf P ty name = some (f, mode) ∧ recvOf H mode u = some recv ∧ (∃ fn, P.funcs[f]? = some fn ∧ fn.body.isSome = true ∧ (fn.name == "runtime.NumGoroutine") = false) ∧ T P f (recv :: args) H v H'
/-- Two structs or arrays in which no address stands are compared, by the machine's own run. -/
def EqR (P : Program) (t : Tm) (neq : Bool) (xT : TypeId) (x y : Operand) (v : Value) : Prop :=
  ∃ xs ys b, ev t x = .agg xs ∧ ev t y = .agg ys ∧ xs.toList.all plain1 = true ∧ ys.toList.all plain1 = true ∧ (∀ w, (Op.equal xT (.agg xs) (.agg ys)).run P w = .ok b w) ∧ v = .bool (if neq then !b else b)
def Do (P : Program) (t : Tm) (H : Heap) (op : LOp) (v : Value) (H' : Heap) : Prop :=
  match op with
  | .call f args => T P f (args.map (ev t)) H v H'
  | .callv x args => TV P (ev t x) (args.map (ev t)) H v H'
  | .invoke x name args => TI P (ev t x) name (args.map (ev t)) H v H'
  | .eqR neq xT x y => H' = H ∧ EqR P t neq xT x y v
  | op => step H t op = some (v, H')

structure LIns where
  dst : Option Nat
  op : LOp
  guard : Option (Nat × Bool)
def put (t : Tm) (d : Option Nat) (v : Value) : Tm := match d with | some d => fun i => if i = d then v else t i | none => t
def wantedL (g : Option (Nat × Bool)) (t : Tm) : Bool := match g with
  | none => true
  | some (s, b) => match t s with | .bool c => c == b | _ => false
def wpO (P : Program) : List LIns → (Tm → Heap → Prop) → Tm → Heap → Prop
  | [], Q, t, H => Q t H
  | i :: rest, Q, t, H => if wantedL i.guard t then ∃ v H', Do P t H i.op v H' ∧ wpO P rest Q (put t i.dst v) H' else wpO P rest Q (put t i.dst undef) H

def opndOk (n : Nat) : Operand → Bool
  | .tmp i => decide (i < n)
  | .const v => plain3 v
  | .global _ => false
  | .func _ => true
def dstOk (n : Nat) : Option Nat → Bool | some d => decide (d < n) | none => true
def lightIns (P : Program) (n : Nat) (ops : Array Oper) (o : Oper) : Option LIns :=
  match lightOp P o with
  | some lo => if lo.ops.all (opndOk n) && dstOk n o.dst then
      match o.guard with
      | none => some ⟨o.dst, lo, none⟩
      | some (j, b) => match (ops[j]?).bind (·.dst) with
        | some s => if s < n then some ⟨o.dst, lo, some (s, b)⟩ else none
        | none => none
      else none
  | none => none

/-! ### states -/
def TmR (c : Cx) (t : Tm) (tmps : Array Value) : Prop := ∀ i, i < tmps.size → r3 c (t i) (tmps.getD i undef)
structure St (ds : List Deferred) (n : Nat) (c0 : Cx) (base0 : Base) (t : Tm) (H : Heap) (a : Act) (w : World) : Prop where
  defers : a.defers = ds
  size : a.tmps.size = n
  rep : ∃ ρ, Rep H ρ w ∧ c0.le (H.cx ρ) ∧ H.base = base0 ∧ TmR (H.cx ρ) t a.tmps
def lift (ds : List Deferred) (n : Nat) (c0 : Cx) (base0 : Base) (Q : Exit → Tm → Heap → Prop) : Exit → Act → World → Prop := fun e a w => ∃ t H, St ds n c0 base0 t H a w ∧ Q e t H

theorem TmR.ev {c : Cx} {t : Tm} {a : Act} (h : TmR c t a.tmps) {x : Operand} (hx : opndOk a.tmps.size x = true) : r3 c (ev t x) (a.eval x) := by
  cases x with
  | tmp i => simp only [opndOk, decide_eq_true_eq] at hx; exact h i hx
  | const v => exact plain3_self hx
  | global g => cases hx
  | func f => exact ⟨#[], #[], rfl, .nil, .nil⟩
theorem TmR.mono {c c' : Cx} (h : c.le c') {t : Tm} {tmps : Array Value} (ht : TmR c t tmps) : TmR c' t tmps := fun i hi => r3_mono h (ht i hi)
theorem TmR.put {c : Cx} {t : Tm} {a : Act} (h : TmR c t a.tmps) {v v' : Value} (hv : r3 c v v') (d : Option Nat) : TmR c (Ot.put t d v) (a.put d v').tmps := by
  cases d with
  | none => exact h
  | some d =>
    intro i hi
    simp only [Act.put, Array.size_setIfInBounds] at hi
    simp only [Ot.put, Act.put]
    by_cases he : i = d
    · subst he; simp [hi]; exact hv
    · simp only [he, if_false]
      have := h i hi
      simpa [Array.getD, hi, Array.getElem_setIfInBounds, Ne.symm he] using this
theorem put_size (a : Act) (d : Option Nat) (v : Value) : (a.put d v).tmps.size = a.tmps.size := by cases d <;> simp [Act.put]
theorem put_defers' (a : Act) (d : Option Nat) (v : Value) : (a.put d v).defers = a.defers := by cases d <;> rfl
theorem r3_bool_iff {c : Cx} {v v' : Value} (h : r3 c v v') (b : Bool) : v' = .bool b ↔ v = .bool b := by
  constructor
  · intro hv
    subst hv
    cases v with
    | bool b' => have h' : Value.bool b = .bool b' := h; rw [h']
    | slice a n k => obtain ⟨a', k', h'⟩ := r3_slice_len h; cases h'
    | pointer a => cases a with
      | none => cases h
      | some a => obtain ⟨_, h'⟩ := r3_ptr h; cases h'
    | map m => cases m with
      | none => cases h
      | some m => simp only [r3, r2, r1, r0] at h; cases h.2
    | tuple vs => obtain ⟨_, h', _⟩ := h; cases h'
    | agg vs => obtain ⟨_, h', _⟩ := h; cases h'
    | iface ty u => obtain ⟨_, h', _⟩ := h; cases h'
    | func fn f k => obtain ⟨_, _, h', _⟩ := h; cases h'
    | int k n => have h' : Value.bool b = .int k n := h; cases h'
    | string s => have h' : Value.bool b = .string s := h; cases h'
    | nilIface => have h' : Value.bool b = .nilIface := h; cases h'
    | nilFunc => have h' : Value.bool b = .nilFunc := h; cases h'
    | float _ _ => exact h.elim
    | complex _ _ _ => exact h.elim
    | chan _ => exact h.elim
  · intro hv; subst hv; exact h
/-- The guards of both sides say the same. -/
theorem wanted_eq {P : Program} {n : Nat} {ops : Array Oper} {o : Oper} {li : LIns} (hl : lightIns P n ops o = some li) {c : Cx} {t : Tm} {a : Act} (hn : a.tmps.size = n) (ht : TmR c t a.tmps) :
    Region.wanted o (yielded ops a.tmps) = wantedL li.guard t := by
  unfold lightIns at hl
  split at hl
  · split at hl
    · split at hl
      · rename_i hg; cases hl; simp [Region.wanted, hg, wantedL]
      · rename_i j b hg
        split at hl
        · rename_i s hs
          by_cases hsn : s < n
          case neg => rw [if_neg hsn] at hl; cases hl
          rw [if_pos hsn] at hl
          cases hl
          have hlt : s < a.tmps.size := by rw [hn]; exact hsn
          have hr := ht s hlt
          have hget : a.tmps[s]? = some (a.tmps.getD s undef) := by simp [Array.getD, hlt]
          simp only [Region.wanted, hg, yielded, hs, Option.bind_some, wantedL, hget]
          cases hv : a.tmps.getD s undef with
          | bool q =>
            have := (r3_bool_iff hr q).1 hv
            rw [this]; simp
          | _ =>
            have : ∀ q, t s ≠ .bool q := fun q hq => by have := (r3_bool_iff hr q).2 hq; rw [hv] at this; cases this
            cases hts : t s <;> first | exact absurd hts (this _) | simp
        · cases hl
    · cases hl
  · cases hl

theorem storeN_base : ∀ {vs : List Value} {a : Addr} {i : Nat} {H H' : Heap}, Heap.storeN a i vs H = some H' → H'.base = H.base
  | [], _, _, _, _, h => by simp [Heap.storeN] at h; subst h; rfl
  | v :: vs, a, i, H, H', h => by
    simp only [Heap.storeN] at h
    cases h1 : H.store (a.add i) v with
    | none => simp [h1] at h
    | some H1 =>
      simp only [h1, Option.bind_some] at h
      have e := storeN_base h
      rw [e]
      unfold Heap.store at h1
      split at h1
      · cases h1
      · split at h1
        · cases hk : H.blk (a.add i).block with
          | none => simp [hk] at h1
          | some k =>
            simp only [hk, Option.bind_some] at h1
            split at h1
            · cases h1; rfl
            · cases h1
        · cases h1
theorem lightIns_spec {P : Program} {n : Nat} {ops : Array Oper} {o : Oper} {li : LIns} (hl : lightIns P n ops o = some li) :
    lightOp P o = some li.op ∧ (∀ x ∈ li.op.ops, opndOk n x = true) ∧ dstOk n o.dst = true ∧ li.dst = o.dst := by
  unfold lightIns at hl
  split at hl
  · rename_i lo hlo
    split at hl
    · rename_i hc
      simp only [Bool.and_eq_true, List.all_eq_true] at hc
      split at hl
      · cases hl; exact ⟨hlo, hc.1, hc.2, rfl⟩
      · split at hl
        · split at hl
          · cases hl; exact ⟨hlo, hc.1, hc.2, rfl⟩
          · cases hl
        · cases hl
    · cases hl
  · cases hl
theorem sMake_base {H H' : Heap} {ety sz b : Nat} {z : List Value} {l c v : Value} (h : sMake H ety sz b z l c = some (v, H')) : H'.base = H.base := by
  unfold sMake at h
  split at h
  · split at h
    · cases h; rfl
    · cases h
  · cases h
theorem sToBytes_base {H H' : Heap} {ety : Nat} {x v : Value} (h : sToBytes H ety x = some (v, H')) : H'.base = H.base := by
  unfold sToBytes at h
  split at h
  · split at h
    · cases h; rfl
    · cases h
  · cases h
theorem sAppend_base {H H' : Heap} {ety sz b : Nat} {x y v : Value} (h : sAppend H ety sz b x y = some (v, H')) : H'.base = H.base := by
  unfold sAppend at h
  cases hs : srcCells H sz y with
  | none => simp [hs] at h
  | some mx =>
    obtain ⟨m, xs⟩ := mx
    simp only [hs, Option.bind_some] at h
    split at h
    · split at h
      · cases h; rfl
      · split at h
        · cases h; rfl
        · cases h
    · rename_i a n code
      split at h
      · cases h; rfl
      · split at h
        · split at h
          · cases hk : H.blk a.block with
            | none => simp [hk] at h
            | some k =>
              simp only [hk, Option.bind_some] at h
              split at h
              · cases h; rfl
              · cases h
          · split at h
            · cases hl : H.loadN a 0 (n * sz) with
              | none => simp [hl] at h
              | some o => simp [hl] at h; obtain ⟨_, rfl⟩ := h; rfl
            · cases h
        · cases h
    · cases h
theorem sCopy_base {H H' : Heap} {sz : Nat} {x y v : Value} (h : sCopy H sz x y = some (v, H')) : H'.base = H.base := by
  unfold sCopy at h
  cases hs : srcCells H sz y with
  | none => simp [hs] at h
  | some mx =>
    obtain ⟨m, xs⟩ := mx
    simp only [hs, Option.bind_some] at h
    split at h
    · cases h; rfl
    · rename_i a d code
      cases hst : Heap.storeN a 0 (xs.take (min m d * sz)) H with
      | none => simp [hst] at h
      | some H1 => simp [hst] at h; obtain ⟨_, rfl⟩ := h; exact storeN_base hst
    · cases h
theorem sStore_base {H H' : Heap} {n : Nat} {x v : Value} (h : sStore H n x v = some H') : H'.base = H.base := by
  unfold sStore at h
  split at h
  · split at h
    · exact storeN_base h
    · cases h
  · cases h
theorem map_pair {α : Type} {H H' : Heap} {o : Option α} {f : α → Value} {v : Value} (h : o.map (fun x => (f x, H)) = some (v, H')) : H' = H := by
  cases o <;> simp at h; exact h.2.symm
theorem map_same {H H' : Heap} {o : Option Value} {v : Value} (h : o.map (·, H) = some (v, H')) : H'.base = H.base := by
  cases o <;> simp at h; rw [h.2]
theorem sMapUpdate_put {H H' : Heap} {d : TypeDesc} {x k v : Value} (h : sMapUpdate H d x k v = some H') : ∃ m cs, H' = H.put m cs := by
  unfold sMapUpdate at h
  split at h
  · split at h
    · rename_i m
      cases hm : H.mapAt m with
      | none => simp [hm] at h
      | some p =>
        simp only [hm, Option.bind_some] at h
        cases hf : mfind d k p.2 0 with
        | none => simp [hf] at h
        | some r => cases r <;> (simp only [hf, Option.map_some, Option.some.injEq] at h; exact ⟨_, _, h.symm⟩)
    · cases h
  · cases h
theorem sMapEntry_put {H H' : Heap} {d : TypeDesc} {z x k v : Value} (h : sMapEntry H d z x k = some (v, H')) : ∃ m cs, H' = H.put m cs := by
  unfold sMapEntry at h
  split at h
  · split at h
    · rename_i m
      cases hm : H.mapAt m with
      | none => simp [hm] at h
      | some p =>
        simp only [hm, Option.bind_some] at h
        cases hf : mfind d k p.2 0 with
        | none => simp [hf] at h
        | some r =>
          cases r with
          | none => simp only [hf, Option.bind_some, Option.some.injEq, Prod.mk.injEq] at h; exact ⟨_, _, h.2.symm⟩
          | some q =>
            simp only [hf, Option.bind_some] at h
            cases he : p.2[q.1]? with
            | none => simp [he] at h
            | some e => simp only [he, Option.map_some, Option.some.injEq, Prod.mk.injEq] at h; exact ⟨_, _, h.2.symm⟩
    · cases h
  · cases h
theorem sRange_new {H H' : Heap} {x v : Value} (h : sRange H x = some (v, H')) : ∃ cs, H' = H.new 2 0 cs := by
  unfold sRange at h
  split at h
  · cases h; exact ⟨_, rfl⟩
  · rename_i m
    cases hm : H.mapAt m with
    | none => simp [hm] at h
    | some p => simp only [hm, Option.map_some, Option.some.injEq, Prod.mk.injEq] at h; exact ⟨_, h.2.symm⟩
  · cases h
theorem nextK_at {H : Heap} {x : Value} {K : Value → Heap → Prop} (h : nextK H x K) : ∃ v H', (H' = H ∨ ∃ m cs, H' = H.put m cs) ∧ K v H' := by
  unfold nextK at h
  split at h
  · obtain ⟨_, _, q, _, h⟩ := h
    split at h
    · exact ⟨_, _, .inl rfl, h⟩
    · obtain ⟨p, _, _, h1, h2⟩ := h
      cases ho : q.old p.2 with
      | nil => exact ⟨_, _, .inl rfl, h1 ho⟩
      | cons e l =>
        have he : e ∈ q.old p.2 := by rw [ho]; simp
        unfold Itr.old at he
        exact ⟨_, _, .inr ⟨_, _, rfl⟩, h2 e (List.mem_filter.1 he).1⟩
  · exact h.elim
theorem sNext_put {H H' : Heap} {x v : Value} (h : sNext H x = some (v, H')) : H' = H ∨ ∃ m cs, H' = H.put m cs := by
  obtain ⟨v1, H1, h1, _, rfl⟩ := nextK_at (sNext_K h)
  exact h1
theorem sEntryStore_put {H H' : Heap} {x s v : Value} (h : sEntryStore H x s v = some H') : ∃ m cs, H' = H.put m cs := by
  unfold sEntryStore at h
  split at h
  · split at h
    · rename_i m k b
      cases hm : H.mapAt m with
      | none => simp [hm] at h
      | some p =>
        simp only [hm, Option.bind_some] at h
        cases hf : p.2.findIdx? (fun e => (e.born : Int) == b) with
        | none => simp [hf] at h
        | some i => simp only [hf, Option.map_some, Option.some.injEq] at h; exact ⟨_, _, h.symm⟩
    · cases h
  · cases h
theorem sDelete_put {H H' : Heap} {d : TypeDesc} {x k : Value} (h : sDelete H d x k = some H') : H' = H ∨ ∃ m cs, H' = H.put m cs := by
  unfold sDelete at h
  split at h
  · split at h
    · cases h; exact .inl rfl
    · rename_i m
      cases hm : H.mapAt m with
      | none => simp [hm] at h
      | some p =>
        simp only [hm, Option.bind_some] at h
        cases hf : mfind d k p.2 0 with
        | none => simp [hf] at h
        | some r => cases r <;> (simp only [hf, Option.map_some, Option.some.injEq] at h; exact .inr ⟨_, _, h.symm⟩)
    · cases h
  · cases h
theorem sClear_store {H H' : Heap} {sz : Nat} {z : List Value} {x : Value} (h : sClear H sz z x = some H') : H' = H ∨ ∃ a vs, Heap.storeN a 0 vs H = some H' := by
  unfold sClear at h
  split at h
  · cases h; exact .inl rfl
  · split at h
    · cases h; exact .inl rfl
    · exact .inr ⟨_, _, h⟩
  · cases h
theorem map_snd {α β : Type} {o : Option β} {a x : α} {y : β} (h : o.map (a, ·) = some (x, y)) : o = some y := by
  cases o with
  | none => simp at h
  | some z => simp at h; rw [h.2]
theorem step_base {H H' : Heap} {t : Tm} {op : LOp} {v : Value} (h : step H t op = some (v, H')) : H'.base = H.base := by
  cases op <;> simp only [step] at h <;> first
    | (cases h; rfl)
    | exact map_same h
    | exact sMake_base h
    | exact sToBytes_base h
    | exact sAppend_base h
    | exact sCopy_base h
    | (cases h; done)
    | skip
  case pick => split at h <;> first | (cases h; rfl) | cases h
  case box => split at h <;> first | (cases h; rfl) | cases h
  case build z ps => cases hf : fillA z (evParts t ps) <;> simp [hf] at h; rw [h.2]
  case buildSlice e sz len z ps =>
    cases hf : fillA (zerosA z (len * sz)) (evParts t ps) with
    | none => simp [hf] at h
    | some out => simp only [hf, Option.bind_some] at h; split at h <;> first | (cases h; rfl) | cases h
  case store n x y =>
    cases hf : sStore H n (ev t x) (ev t y) with
    | none => simp [hf] at h
    | some H1 => simp [hf] at h; obtain ⟨_, rfl⟩ := h; exact sStore_base hf
  case isNil => split at h <;> first | exact congrArg Heap.base (map_pair h) | cases h
  case eqB => split at h <;> first | (cases h; rfl) | cases h
  case func => split at h <;> first | (cases h; rfl) | cases h
  case lenS => split at h <;> first | (cases h; rfl) | cases h
  case len => split at h <;> first | (cases h; rfl) | cases h
  case minmax => split at h <;> first | exact map_same h | cases h
  case mapUpdate => obtain ⟨m, cs, rfl⟩ := sMapUpdate_put (map_snd h); rfl
  case mapEntry => obtain ⟨m, cs, rfl⟩ := sMapEntry_put h; rfl
  case entryStore => obtain ⟨m, cs, rfl⟩ := sEntryStore_put (map_snd h); rfl
  case delete => rcases sDelete_put (map_snd h) with rfl | ⟨m, cs, rfl⟩ <;> rfl
  case rangeM => obtain ⟨cs, rfl⟩ := sRange_new h; rfl
  case nextM => rcases sNext_put h with rfl | ⟨m, cs, rfl⟩ <;> rfl
  case clear => rcases sClear_store (map_snd h) with rfl | ⟨a, vs, hs⟩; · rfl
                · exact storeN_base hs
end Go.Ot
