/-
  Part J: light operations (no types, no places in the text): what each does, and how one comes of the machine's.
-/
import Derived.Test.YtfmcnojojknkfaaOtIa
set_option linter.unusedVariables false
set_option linter.unusedSimpArgs false
namespace Go.Ot
open Go.RowKit

inductive LOp where
  | move (x : Operand)
  | pick (c a b : Operand)
  | new (ty : TypeId) (sz : Nat) (z : List Value)
  | box (ty : TypeId) (sz : Nat) (x : Operand)
  | build (z : List Value) (parts : List (Nat × Nat × Operand))
  | buildSlice (ety : TypeId) (sz len : Nat) (z : List Value) (parts : List (Nat × Nat × Operand))
  | load (agg : Bool) (n : Nat) (x : Operand)
  | store (n : Nat) (a x : Operand)
  | nilCheck (x : Operand)
  | bin (op : BinOp) (x y : Operand)
  | isNil (neq : Bool) (d : TypeDesc) (x : Operand)
  | eqB (neq : Bool) (x y : Operand)
  | un (op : UnOp) (x : Operand)
  | conv (k : IntKind) (x : Operand)
  | same (x : Operand)
  | toStr (x : Operand)
  | toBytes (ety : TypeId) (x : Operand)
  | mark (x : Operand)
  | arr (n : Nat) (x : Operand)
  | iface (t : TypeId) (x : Operand)
  | func (fn : Fn) (first captured : List Operand)
  | make (ety : TypeId) (sz bytes : Nat) (z : List Value) (l c : Operand)
  | slice (sz : Nat) (x : Operand) (lo hi mx : Option Operand)
  | sliceArr (n sz : Nat) (x : Operand) (lo hi mx : Option Operand)
  | sliceStr (x : Operand) (lo hi : Option Operand)
  | off (k : Nat) (x : Operand)
  | fld (agg : Bool) (off n : Nat) (x : Operand)
  | idx (sz : Nat) (x i : Operand)
  | idxArr (len sz : Nat) (x i : Operand)
  | idxStr (x i : Operand)
  | idxAgg (agg : Bool) (len n : Nat) (x i : Operand)
  | extract (x : Operand) (i : Nat)
  | append (ety : TypeId) (sz bytes : Nat) (x y : Operand)
  | copy (sz : Nat) (x y : Operand)
  | lenS (x : Operand)
  | len (x : Operand)
  | lenK (n : Nat)
  | minmax (mx : Bool) (x : Operand) (rest : List Operand)
  | eqR (neq : Bool) (xT : TypeId) (x y : Operand)
  | makeMap
  | lookup (d : TypeDesc) (z : Value) (comma : Bool) (x i : Operand)
  | mapUpdate (d : TypeDesc) (x k v : Operand)
  | mapEntry (d : TypeDesc) (z : Value) (x k : Operand)
  | entryStore (x s v : Operand)
  | delete (d : TypeDesc) (x k : Operand)
  | lenM (x : Operand)
  | rangeM (x : Operand)
  | nextM (x : Operand)
  | entryM (x : Operand)
  | clear (sz : Nat) (z : List Value) (x : Operand)
  | assert (ty : TypeId) (z : Value) (comma : Bool) (x : Operand)
  | invoke (x : Operand) (name : String) (args : List Operand)
  | call (f : FuncId) (args : List Operand)
  | callv (x : Operand) (args : List Operand)
  | panic (x : Operand)

abbrev Tm := Nat → Value
def ev (t : Tm) : Operand → Value
  | .tmp i => t i
  | .const v => v
  | .global g => .pointer (some ⟨g, 0, none⟩)
  | .func f => .func (.func f) #[] #[]
def evParts (t : Tm) (ps : List (Nat × Nat × Operand)) : List (Nat × Nat × Value) := ps.map fun p => (p.1, p.2.1, ev t p.2.2)
def sIface (t : TypeId) (x : Value) : Option Value := match x with
  | .agg cs => if plainAgg (.agg cs) = true then some (.iface t (.agg cs)) else none
  | .tuple _ | .iface _ _ | .func _ _ _ => none
  | v => some (.iface t v)
def isR0 : Value → Bool | .agg _ | .tuple _ | .iface _ _ | .func _ _ _ => false | _ => true
def sConv (k : IntKind) (x : Value) : Option Value := match x with | .int _ n => some (.int k (k.wrap n)) | _ => none
def sSame (x : Value) : Option Value := match x with | .string s => some (.string s) | _ => none
def sNilCheck (x : Value) : Option Value := match x with | .pointer (some a) => some (.pointer (some a)) | .iface t v => some (.iface t v) | .func (.func f) a b => some (.func (.func f) a b) | _ => none

/-- What an operation does (calls apart). -/
def step (H : Heap) (t : Tm) : LOp → Option (Value × Heap)
  | .move x => some (ev t x, H)
  | .pick c a b => match ev t c with | .bool true => some (ev t a, H) | .bool false => some (ev t b, H) | _ => none
  | .new ty sz z => some (.pointer (some ⟨H.next, 0, none⟩), H.new ty sz z)
  | .box ty sz x => if notTup (ev t x) = true ∧ (ev t x).cells.size = sz then some (.pointer (some ⟨H.next, 0, none⟩), H.new ty sz (ev t x).cells.toList) else none
  | .build z ps => (fillA z (evParts t ps)).map fun out => (.agg out.toArray, H)
  | .buildSlice ety sz len z ps => (fillA (zerosA z (len * sz)) (evParts t ps)).bind fun out => if out.length = len * sz then some (.slice (some ⟨H.next, 0, none⟩) len 0, H.new ety sz out) else none
  | .load agg n x => (sLoad H agg n (ev t x)).map (·, H)
  | .store n a x => (sStore H n (ev t a) (ev t x)).map (undef, ·)
  | .nilCheck x => (sNilCheck (ev t x)).map (·, H)
  | .bin op x y => (sBin op (ev t x) (ev t y)).map (·, H)
  | .isNil neq d x => if fitsNil d (ev t x) then (isNil (ev t x)).map fun b => (.bool (if neq then !b else b), H) else none
  | .eqB neq x y => match ev t x, ev t y with | .bool a, .bool b => some (.bool (if neq then !(a == b) else a == b), H) | _, _ => none
  | .un op x => (sUn op (ev t x)).map (·, H)
  | .conv k x => (sConv k (ev t x)).map (·, H)
  | .same x => (sSame (ev t x)).map (·, H)
  | .toStr x => (sToStr H (ev t x)).map (·, H)
  | .toBytes ety x => sToBytes H ety (ev t x)
  | .mark x => (sMark H (ev t x)).map (·, H)
  | .arr n x => (sArr n (ev t x)).map (·, H)
  | .iface ty x => (sIface ty (ev t x)).map (·, H)
  | .func fn f c => if (f.map (ev t)).all isR0 ∧ (c.map (ev t)).all isR0 then some (.func fn (f.map (ev t)).toArray (c.map (ev t)).toArray, H) else none
  | .make ety sz bytes z l c => sMake H ety sz bytes z (ev t l) (ev t c)
  | .slice sz x lo hi mx => (sSlice sz (ev t x) (lo.map (ev t)) (hi.map (ev t)) (mx.map (ev t))).map (·, H)
  | .sliceArr n sz x lo hi mx => (sSliceArr n sz (ev t x) (lo.map (ev t)) (hi.map (ev t)) (mx.map (ev t))).map (·, H)
  | .sliceStr x lo hi => (sSliceStr (ev t x) (lo.map (ev t)) (hi.map (ev t))).map (·, H)
  | .off k x => (sOff k (ev t x)).map (·, H)
  | .fld agg off n x => (sFld agg off n (ev t x)).map (·, H)
  | .idx sz x i => (sIdx sz (ev t x) (ev t i)).map (·, H)
  | .idxArr len sz x i => (sIdxArr len sz (ev t x) (ev t i)).map (·, H)
  | .idxStr x i => (sIdxStr (ev t x) (ev t i)).map (·, H)
  | .idxAgg agg len n x i => (sIdxAgg agg len n (ev t x) (ev t i)).map (·, H)
  | .extract x i => (sExtract (ev t x) i).map (·, H)
  | .append ety sz bytes x y => sAppend H ety sz bytes (ev t x) (ev t y)
  | .copy sz x y => sCopy H sz (ev t x) (ev t y)
  | .lenS x => match ev t x with | .string s => some (.int .i64 s.size, H) | _ => none
  | .len x => match ev t x with | .slice _ n _ => some (.int .i64 n, H) | _ => none
  | .lenK n => some (.int .i64 n, H)
  | .minmax mx x rest => match ev t x with | .int k n => (sMinMax mx (.int k n) (rest.map (ev t))).map (·, H) | _ => none
  | .makeMap => some (.map (some H.next), H.new 0 0 (mcells 0 []))
  | .lookup d z c x i => (sLookup H d z c (ev t x) (ev t i)).map (·, H)
  | .mapUpdate d x k v => (sMapUpdate H d (ev t x) (ev t k) (ev t v)).map (undef, ·)
  | .mapEntry d z x k => sMapEntry H d z (ev t x) (ev t k)
  | .entryStore x s v => (sEntryStore H (ev t x) (ev t s) (ev t v)).map (undef, ·)
  | .delete d x k => (sDelete H d (ev t x) (ev t k)).map (undef, ·)
  | .lenM x => (sLenM H (ev t x)).map (·, H)
  | .rangeM x => sRange H (ev t x)
  | .nextM x => sNext H (ev t x)
  | .entryM x => (sEntry H (ev t x)).map (·, H)
  | .clear sz z x => (sClear H sz z (ev t x)).map (undef, ·)
  | .assert ty z c x => (sAssert ty z c (ev t x)).map (·, H)
  | .invoke _ _ _ => none
  | .eqR _ _ _ _ => none
  | .call _ _ => none
  | .callv _ _ => none
  | .panic _ => none

/-! ### from the machine's operation -/
def infoZ (P : Program) (t : TypeId) : Option (TypeInfo × Value) :=
  match P.info? t with
  | some i => match i.zero with
    | some z => if z.cells.toList.all plain1 && notTup z && (z.cells.size == i.size) && decide (0 < i.size) && decide (0 < i.bytes) then some (i, z) else none
    | none => none
  | none => none
theorem infoZ_spec {P : Program} {t : TypeId} {i : TypeInfo} {z : Value} (h : infoZ P t = some (i, z)) :
    P.info? t = some i ∧ i.zero = some z ∧ (∀ v ∈ z.cells.toList, plain1 v = true) ∧ notTup z = true ∧ z.cells.size = i.size ∧ 0 < i.size ∧ 0 < i.bytes := by
  unfold infoZ at h
  split at h
  · rename_i j hj
    split at h
    · rename_i y hy
      split at h
      · rename_i hc
        cases h
        simp only [Bool.and_eq_true, List.all_eq_true, beq_iff_eq, decide_eq_true_eq] at hc
        obtain ⟨⟨⟨⟨h1, h2⟩, h3⟩, h4⟩, h5⟩ := hc
        exact ⟨hj, hy, h1, h2, h3, h4, h5⟩
      · cases h
    · cases h
  · cases h
def infoO (P : Program) (t : TypeId) : Bool :=
  match P.info? t with
  | some i => match i.zero with
    | some z => z.cells.isEmpty
    | none => false
  | none => false
theorem infoO_spec {P : Program} {t : TypeId} (h : infoO P t = true) : ∃ i z, P.info? t = some i ∧ i.zero = some z ∧ z.cells = #[] := by
  unfold infoO at h
  split at h
  · rename_i j hj
    split at h
    · rename_i y hy; exact ⟨j, y, hj, hy, by simpa using h⟩
    · cases h
  · cases h
def infoS (P : Program) (t : TypeId) : Option TypeInfo :=
  match P.info? t with
  | some i => if 0 < i.size then some i else none
  | none => none
theorem infoS_spec {P : Program} {t : TypeId} {i : TypeInfo} (h : infoS P t = some i) : P.info? t = some i ∧ 0 < i.size := by
  unfold infoS at h
  split at h
  · rename_i j hj
    split at h
    · rename_i hc; cases h; exact ⟨hj, hc⟩
    · cases h
  · cases h
def partsOf (pl : Nat → Option (Nat × Nat)) : List (Nat × Operand) → Option (List (Nat × Nat × Operand))
  | [] => some []
  | (i, x) :: rest => match pl i with
    | some (o, s) => match partsOf pl rest with
      | some r => some ((o, s, x) :: r)
      | none => none
    | none => none
/-- The nil that an operand is, if it is the literal one. -/
def nilLit : Operand → Option Value
  | .const (.pointer none) => some (.pointer none)
  | .const (.slice none 0 0) => some (.slice none 0 0)
  | .const (.map none) => some (.map none)
  | .const .nilIface => some .nilIface
  | .const .nilFunc => some .nilFunc
  | _ => none
theorem nilLit_spec {x : Operand} {v : Value} (h : nilLit x = some v) : x = .const v := by
  unfold nilLit at h
  split at h <;> first | (cases h; rfl) | cases h
def eqKind (op : BinOp) : Option Bool := match op with | .eql => some false | .neq => some true | _ => none
def isIntOrStr (P : Program) (t : TypeId) : Bool := match P.underlying t with | some (.int _) | some .string => true | _ => false

def fitLit (d : TypeDesc) (y : Operand) : Bool := match d, y with
  | .pointer _, .const (.pointer none) => true
  | .slice _, .const (.slice none 0 0) => true
  | .map _ _, .const (.map none) => true
  | .interface _, .const .nilIface => true
  | .func _ _ _, .const .nilFunc => true
  | _, _ => false
theorem fitLit_spec {d : TypeDesc} {y : Operand} (h : fitLit d y = true) : ∃ v, y = .const v ∧ nilOf d = some v := by
  unfold fitLit at h
  split at h <;> first | exact ⟨_, rfl, rfl⟩ | cases h
def aggInfo (P : Program) (t : TypeId) : Option (Bool × Nat) :=
  match P.underlying t with
  | some d => match P.info? t with
    | some i => if 0 < i.size then some (aggOf d, i.size) else none
    | none => none
  | none => none
theorem aggInfo_spec {P : Program} {t : TypeId} {b : Bool} {n : Nat} (h : aggInfo P t = some (b, n)) : ∃ d i, P.underlying t = some d ∧ P.info? t = some i ∧ b = aggOf d ∧ n = i.size ∧ 0 < i.size := by
  unfold aggInfo at h
  split at h
  · rename_i d hd
    split at h
    · rename_i i hi
      split at h
      · rename_i hc; cases h; exact ⟨d, i, hd, hi, rfl, rfl, hc⟩
      · cases h
    · cases h
  · cases h
def concreteT (P : Program) (t : TypeId) : Bool := match P.underlying t with | some (.interface _) | none => false | _ => true

def keyDesc (P : Program) (t : TypeId) : Option TypeDesc := match P.underlying t with | some (.int k) => some (.int k) | some .string => some .string | _ => none
theorem keyDesc_spec {P : Program} {t : TypeId} {d : TypeDesc} (h : keyDesc P t = some d) : P.underlying t = some d := by
  unfold keyDesc at h
  split at h
  · rename_i k hk; cases h; exact hk
  · rename_i hk; cases h; exact hk
  · cases h
def zeroV (P : Program) (t : TypeId) : Option Value := match P.info? t with
  | some i => match i.zero with
    | some z => if plain2 z then some z else none
    | none => none
  | none => none
theorem zeroV_spec {P : Program} {t : TypeId} {z : Value} (h : zeroV P t = some z) : ∃ i, P.info? t = some i ∧ i.zero = some z ∧ plain2 z = true := by
  unfold zeroV at h
  split at h
  · rename_i i hi
    split at h
    · rename_i y hy
      split at h
      · rename_i hp; cases h; exact ⟨i, hi, hy, hp⟩
      · cases h
    · cases h
  · cases h
/-- A method's function, and how its receiver comes of the interface's value. -/
def methodOf (P : Program) (t : TypeId) (name : String) : Option (FuncId × RMode) :=
  match P.info? t with
  | some i => match i.methods.find? (fun m => m.name == name) with
    | some m => if m.path.isEmpty then match m.func with
        | some (f, pr) => match P.underlying t with
          | some (.pointer e) => if pr then some (f, .same) else match aggInfo P e with
            | some (b, n) => some (f, .load b n)
            | none => none
          | some _ => if pr then none else some (f, .same)
          | none => none
        | none => none
      else none
    | none => none
  | none => none
/-- The light operation of one of the machine's. -/
def lightOp (P : Program) (o : Oper) : Option LOp :=
  match o.op with
  | .move x | .assign x => some (.move x)
  | .pick c a b => some (.pick c a b)
  | .alloc e => match infoZ P e with
    | some (i, z) => some (.new e i.size z.cells.toList)
    | none => if infoO P e = true then some (.new e 1 []) else none
  | .box e x => match infoS P e with
    | some i => some (.box e i.size x)
    | none => none
  | .build t ps => match P.info? t with
    | some i => match i.zero with
      | some z => if z.cells.toList.all plain1 then match P.underlying t with
        | some (.struct fs) => match fieldPlaces P fs.toList with
          | some pl => match partsOf (pl[·]?) ps.toList with
            | some qs => some (.build z.cells.toList qs)
            | none => none
          | none => none
        | some (.array _ e) => match P.info? e with
          | some ie => match partsOf (fun k => some (k * ie.size, ie.size)) ps.toList with
            | some qs => some (.build z.cells.toList qs)
            | none => none
          | none => none
        | _ => none else none
      | none => none
    | none => none
  | .buildSlice t len ps => match P.underlying t with
    | some (.slice e) => match infoZ P e with
      | some (ie, z) => if len * ie.size ≤ 2 ^ 24 then match partsOf (fun k => some (k * ie.size, ie.size)) ps.toList with
        | some qs => some (.buildSlice e ie.size len z.cells.toList qs)
        | none => none else none
      | none => none
    | _ => none
  | .load t x => match aggInfo P t with
    | some (b, n) => some (.load b n x)
    | none => none
  | .store t a x => match P.info? t with
    | some i => some (.store i.size a x)
    | none => none
  | .nilCheck x => some (.nilCheck x)
  | .binOp op xT x y _ => match eqKind op with
    | some neq => match P.underlying xT with
      | some .bool => some (.eqB neq x y)
      | some (.int _) => some (.bin op x y)
      | some .string => some (.bin op x y)
      | some d => if fitLit d y then some (.isNil neq d x) else if P.eqGuardType P.depth xT = false then some (.eqR neq xT x y) else none
      | none => none
    | none => some (.bin op x y)
  | .unOp op _ x => some (.un op x)
  | .convert src dst x => match P.underlying dst with
    | some (.int k) => if (P.underlying src).isSome then some (.conv k x) else none
    | some .string => match P.underlying src with
      | some .string => some (.same x)
      | some (.slice e) => match P.underlying e with
        | some (.int .u8) => some (.toStr x)
        | _ => none
      | _ => none
    | some (.slice e) => match P.underlying e with
      | some (.int .u8) => match P.underlying src with
        | some .string => some (.toBytes e x)
        | some (.slice e') => if src = dst ∧ e = e' then some (.mark x) else none
        | _ => none
      | _ => none
    | _ => none
  | .sliceToArrayPointer t x => match P.underlying t with
    | some (.array n _) => some (.arr n x)
    | _ => none
  | .makeInterface t x => if concreteT P t then some (.iface t x) else none
  | .panic x => some (.panic x)
  | .makeFunc fn f c => some (.func fn f.toList c.toList)
  | .makeSlice t l c => match P.underlying t with
    | some (.slice e) => match infoZ P e with
      | some (ie, z) => some (.make e ie.size ie.bytes z.cells.toList l c)
      | none => none
    | _ => none
  | .slice t x lo hi mx => match P.underlying t with
    | some (.slice e) => match P.info? e with
      | some ie => some (.slice ie.size x lo hi mx)
      | none => none
    | some (.array n e) => match P.info? e with
      | some ie => some (.sliceArr n ie.size x lo hi mx)
      | none => none
    | some .string => match mx with
      | none => some (.sliceStr x lo hi)
      | some _ => none
    | _ => none
  | .fieldAddr s x f => match P.underlying s with
    | some (.struct fs) => match fs[f]? with
      | some fd => match infoS P fd.type with
        | some _ => some (.off fd.offset x)
        | none => none
      | none => none
    | _ => none
  | .field xT x f => match P.underlying xT with
    | some (.struct fs) => match fs[f]? with
      | some fd => match aggInfo P fd.type with
        | some (b, n) => some (.fld b fd.offset n x)
        | none => none
      | none => none
    | _ => none
  | .indexAddr t x i => match P.underlying t with
    | some (.slice e) => match P.info? e with
      | some ie => some (.idx ie.size x i)
      | none => none
    | some (.array n e) => match P.info? e with
      | some ie => some (.idxArr n ie.size x i)
      | none => none
    | _ => none
  | .index xT x i => match P.underlying xT with
    | some .string => some (.idxStr x i)
    | some (.array len e) => match aggInfo P e with
      | some (b, n) => some (.idxAgg b len n x i)
      | none => none
    | _ => none
  | .extract x i => some (.extract x i)
  | .makeMap _ r => if r.isNone then some .makeMap else none
  | .lookup xT x i c => match P.underlying xT with
    | some (.map kt et) => match keyDesc P kt with
      | some d => match zeroV P et with
        | some z => some (.lookup d z c x i)
        | none => none
      | none => none
    | _ => none
  | .mapUpdate xT x k v => match P.underlying xT with
    | some (.map kt _) => match keyDesc P kt with
      | some d => some (.mapUpdate d x k v)
      | none => none
    | _ => none
  | .insert xT x k v => match P.underlying xT with
    | some (.map kt _) => match keyDesc P kt with
      | some d => some (.mapUpdate d x k v)
      | none => none
    | _ => none
  | .mapEntry xT x k => match P.underlying xT with
    | some (.map kt et) => match keyDesc P kt with
      | some d => match zeroV P et with
        | some z => some (.mapEntry d z x k)
        | none => none
      | none => none
    | _ => none
  | .entryStore _ x s v => some (.entryStore x s v)
  | .range xT x => match P.underlying xT with
    | some (.map _ _) => some (.rangeM x)
    | _ => none
  | .next x str => if str then none else some (.nextM x)
  | .entry x => some (.entryM x)
  | .typeAssert x _ ty c => match P.underlying ty with
    | some d => if notIface d then match zeroV P ty with
      | some z => some (.assert ty z c x)
      | none => none else none
    | none => none
  | .call c => match c.callee with
    | .value (.func f) => match P.funcs[f]? with
      | some fn => if fn.body.isSome && !(fn.name == "runtime.NumGoroutine") then some (.call f c.args.toList) else none
      | none => none
    | .value x => some (.callv x c.args.toList)
    | .invoke x name => some (.invoke x name c.args.toList)
    | .builtin b => match b, c.args.toList, c.argTypes.toList with
      | .append, [x, y], [t, u] => match P.underlying t with
        | some (.slice e) => match infoZ P e with
          | some (ie, _) => match P.underlying u with
            | some (.slice _) => some (.append e ie.size ie.bytes x y)
            | some .string => some (.append e ie.size ie.bytes x y)
            | _ => none
          | none => none
        | _ => none
      | .copy, [x, y], [t, _] => match P.underlying t with
        | some (.slice e) => match P.info? e with
          | some ie => some (.copy ie.size x y)
          | none => none
        | _ => none
      | .len, [x], [t] => match P.underlying t with
        | some .string => some (.lenS x)
        | some (.slice _) => some (.len x)
        | some (.array n _) => some (.lenK n)
        | some (.map _ _) => some (.lenM x)
        | _ => none
      | .delete, [x, k], [t, _] => match P.underlying t with
        | some (.map kt _) => match keyDesc P kt with
          | some d => some (.delete d x k)
          | none => none
        | _ => none
      | .clear, [x], [t] => match P.underlying t with
        | some (.slice e) => match infoZ P e with
          | some (i, z) => some (.clear i.size z.cells.toList x)
          | none => none
        | _ => none
      | .min, x :: rest, _ => some (.minmax false x rest)
      | .max, x :: rest, _ => some (.minmax true x rest)
      | _, _, _ => none
  | _ => none
end Go.Ot
