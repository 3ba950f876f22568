/-
  Part Zj: whole functions run by reckoning alone; a function without arguments that answers a plain value does so in every heap.
-/
import Derived.Test.YtfmcnojojknkfaaOtZi
import Derived.Laws.StructEq
import Derived.ChangeKeysEq
set_option linter.unusedVariables false
set_option linter.unusedSimpArgs false
namespace Go.Ot
open Go.RowKit

/-! ### equality -/
def addrEq (a b : Addr) : Bool := Nat.beq a.block b.block && Nat.beq a.off b.off && a.spot.isNone && b.spot.isNone
theorem addrEq_eq {a b : Addr} (h : addrEq a b = true) : a = b := by
  obtain ⟨x, y, z⟩ := a
  obtain ⟨x', y', z'⟩ := b
  simp only [addrEq, Bool.and_eq_true, Nat.beq_eq, Option.isNone_iff_eq_none] at h
  obtain ⟨⟨⟨rfl, rfl⟩, rfl⟩, rfl⟩ := h
  rfl
def oaddrEq : Option Addr → Option Addr → Bool
  | none, none => true
  | some a, some b => addrEq a b
  | _, _ => false
theorem oaddrEq_eq {a b : Option Addr} (h : oaddrEq a b = true) : a = b := by
  unfold oaddrEq at h
  split at h
  · rfl
  · rw [addrEq_eq h]
  · cases h
def lEq (r : Value → Value → Bool) : List Value → List Value → Bool
  | [], [] => true
  | a :: l, b :: m => r a b && lEq r l m
  | _, _ => false
theorem lEq_eq {r : Value → Value → Bool} (hr : ∀ a b, r a b = true → a = b) : ∀ {l m : List Value}, lEq r l m = true → l = m
  | [], [], _ => rfl
  | [], _ :: _, h => by cases h
  | _ :: _, [], h => by cases h
  | a :: l, b :: m, h => by
    simp only [lEq, Bool.and_eq_true] at h
    rw [hr a b h.1, lEq_eq hr h.2]
def veq : Nat → Value → Value → Bool
  | 0, _, _ => false
  | n + 1, a, b => match a with
    | .bool x => match b with | .bool y => x == y | _ => false
    | .int k x => match b with | .int k' y => decide (k = k') && decide (x = y) | _ => false
    | .string x => match b with | .string y => decide (x.data.toList = y.data.toList) | _ => false
    | .pointer x => match b with | .pointer y => oaddrEq x y | _ => false
    | .slice x p q => match b with | .slice y p' q' => oaddrEq x y && Nat.beq p p' && Nat.beq q q' | _ => false
    | .map x => match b with | .map y => decide (x = y) | _ => false
    | .nilIface => match b with | .nilIface => true | _ => false
    | .nilFunc => match b with | .nilFunc => true | _ => false
    | .iface t x => match b with | .iface t' y => Nat.beq t t' && veq n x y | _ => false
    | .agg x => match b with | .agg y => lEq (veq n) x.toList y.toList | _ => false
    | .tuple x => match b with | .tuple y => lEq (veq n) x.toList y.toList | _ => false
    | .func (.func f) p q => match b with | .func (.func g) p' q' => Nat.beq f g && lEq (veq n) p.toList p'.toList && lEq (veq n) q.toList q'.toList | _ => false
    | _ => false
theorem veq_eq : ∀ {n : Nat} {a b : Value}, veq n a b = true → a = b
  | 0, _, _, h => by cases h
  | n + 1, a, b, h => by
    have ih : ∀ a b, veq n a b = true → a = b := fun a b h => veq_eq h
    unfold veq at h
    split at h
    · split at h
      · first | exact congrArg Value.bool (by simpa using h) | exact congrArg Value.map (by simpa using h)
      · cases h
    · split at h
      · rename_i k x k' y
        simp only [Bool.and_eq_true, decide_eq_true_eq] at h
        rw [h.1, h.2]
      · cases h
    · split at h
      · rename_i x y
        simp only [decide_eq_true_eq] at h
        exact congrArg Value.string (ByteArray.ext (Array.toList_inj.1 h))
      · cases h
    · split at h
      · rw [oaddrEq_eq h]
      · cases h
    · split at h
      · simp only [Bool.and_eq_true, Nat.beq_eq] at h
        rw [oaddrEq_eq h.1.1, h.1.2, h.2]
      · cases h
    · split at h
      · first | exact congrArg Value.bool (by simpa using h) | exact congrArg Value.map (by simpa using h)
      · cases h
    · split at h
      · rfl
      · cases h
    · split at h
      · rfl
      · cases h
    · split at h
      · simp only [Bool.and_eq_true, Nat.beq_eq] at h
        rw [h.1, ih _ _ h.2]
      · cases h
    · split at h
      · rw [Array.toList_inj.1 (lEq_eq ih h)]
      · cases h
    · split at h
      · rw [Array.toList_inj.1 (lEq_eq ih h)]
      · cases h
    · split at h
      · simp only [Bool.and_eq_true, Nat.beq_eq] at h
        rw [h.1.1, Array.toList_inj.1 (lEq_eq ih h.1.2), Array.toList_inj.1 (lEq_eq ih h.2)]
      · cases h
    · cases h

/-! ### structs compared -/
def eqFs (P : Program) (r : TypeId → Value → Value → Option Bool) (xs ys : List Value) : List Field → Option Bool
  | [] => some true
  | f :: fs => if f.name = "_" then eqFs P r xs ys fs else match aggInfo P f.type with
    | some (b, n) => match sPart b f.offset n xs, sPart b f.offset n ys with
      | some a, some c => match r f.type a c with
        | some true => eqFs P r xs ys fs
        | some false => some false
        | none => none
      | _, _ => none
    | none => none
def eqIs (P : Program) (r : TypeId → Value → Value → Option Bool) (e : TypeId) (c : Nat) (xs ys : List Value) : List Nat → Option Bool
  | [] => some true
  | i :: is => match aggInfo P e with
    | some (b, n) => match sPart b (i * c) n xs, sPart b (i * c) n ys with
      | some a, some u => match r e a u with
        | some true => eqIs P r e c xs ys is
        | some false => some false
        | none => none
      | _, _ => none
    | none => none
def eqD (P : Program) : Nat → TypeId → Value → Value → Option Bool
  | 0, _, _, _ => none
  | d + 1, t, x, y => match P.underlying t with
    | some .bool => match x, y with | .bool a, .bool b => some (a == b) | _, _ => none
    | some (.int _) => match x, y with | .int k a, .int k' b => if k = k' then some (a == b) else none | _, _ => none
    | some .string => match x, y with | .string a, .string b => some (a.toList == b.toList) | _, _ => none
    | some (.struct fs) => match x, y with | .agg xs, .agg ys => if P.stoodInHeld t then none else eqFs P (eqD P d) xs.toList ys.toList fs.toList | _, _ => none
    | some (.array n e) => match x, y with
      | .agg xs, .agg ys => match aggInfo P e with | some _ => eqIs P (eqD P d) e (P.cellsOf e) xs.toList ys.toList (List.range n) | none => none
      | _, _ => none
    | _ => none
theorem part_run {P : Program} (w : World) {t : TypeId} {b : Bool} {n : Nat} (hi : aggInfo P t = some (b, n)) {cs : Array Value} {off : Nat} {v : Value} (hp : cs.toList.all plain1 = true) (hs : sPart b off n cs.toList = some v) :
    (part t cs off).run P w = .ok v w ∧ plain2 v = true := by
  obtain ⟨d, i, hd, hii, rfl, rfl, hpos⟩ := aggInfo_spec hi
  have hR := H0_rep w
  have hcs : All2 (r1 ((H0 w).cx (fun _ => (0, 0)))) cs.toList cs.toList := All2.of_same fun v hv => plain1_self (List.all_eq_true.1 hp v hv)
  have hpv : plain2 v = true := by
    unfold sPart at hs
    split at hs
    · split at hs
      · cases hs
        simp only [plain2, List.all_eq_true]
        intro u hu
        exact List.all_eq_true.1 hp u (List.mem_of_mem_drop (List.mem_of_mem_take hu))
      · cases hs
    · have h1 := List.all_eq_true.1 hp v (List.mem_of_getElem? hs)
      cases v <;> first | exact h1 | (simp [plain1, plain0] at h1)
  obtain ⟨ρ', v', w', hrun, hr, _, _⟩ := stp_part (P := P) hR hd hii hcs hs
  have hrun2 : ∃ u, (part t cs (off)).run P w = .ok u w := by
    have h2 := hrun
    unfold part at h2 ⊢
    simp only [Sem.run_bind, run_isAgg hd, Result.andThen_ok, run_sizeOf hii] at h2 ⊢
    cases hag : aggOf d
    · simp only [hag, Bool.false_eq_true, if_false] at h2 ⊢
      split at h2
      · rename_i u hu; exact ⟨u, by simp [hu]⟩
      · simp [stuck] at h2
    · simp only [hag, if_true] at h2 ⊢
      exact ⟨.agg (cs.extract off (off + i.size)), by simp [run_sizeOf hii]⟩
  obtain ⟨u, hu⟩ := hrun2
  rw [hrun] at hu
  cases hu
  have : v' = v := r3_plain3_eq (by cases v <;> first | exact hpv | (simp [plain2, plain1, plain0] at hpv)) hr
  subst this
  exact ⟨hrun, hpv⟩
theorem plain2_agg {xs : Array Value} (h : plain2 (.agg xs) = true) : xs.toList.all plain1 = true := h
theorem eqFs_run {P : Program} {d : Nat} {r : TypeId → Value → Value → Option Bool} (hr : ∀ (t : TypeId) (x y : Value) (b : Bool), plain2 x = true → plain2 y = true → r t x y = some b → ∀ w, (Op.equalIn d t x y).run P w = .ok b w)
    {xs ys : Array Value} (hx : xs.toList.all plain1 = true) (hy : ys.toList.all plain1 = true) : ∀ {fs : List Field} {b : Bool}, eqFs P r xs.toList ys.toList fs = some b → ∀ w, (Op.eqFields d xs ys fs).run P w = .ok b w
  | [], b, h, w => by cases h; simp [Op.eqFields]
  | f :: fs, b, h, w => by
    simp only [eqFs] at h
    split at h
    · rename_i hn
      simp only [Op.eqFields, hn, ne_eq, not_true_eq_false, if_false]
      exact eqFs_run hr hx hy h w
    · rename_i hn
      split at h
      · rename_i ag n hag
        split at h
        · rename_i a c ha hc
          obtain ⟨r1', p1⟩ := part_run w hag hx ha
          obtain ⟨r2', p2⟩ := part_run w hag hy hc
          split at h
          · rename_i hrr
            simp only [Op.eqFields, ne_eq, hn, not_false_eq_true, if_true, Sem.run_bind, r1', r2', Result.andThen_ok, hr _ _ _ _ p1 p2 hrr w]
            exact eqFs_run hr hx hy h w
          · rename_i hrr
            cases h
            simp only [Op.eqFields, ne_eq, hn, not_false_eq_true, if_true, Sem.run_bind, r1', r2', Result.andThen_ok, hr _ _ _ _ p1 p2 hrr w]
            simp
          · cases h
        · cases h
      · cases h
theorem eqIs_run {P : Program} {d : Nat} {r : TypeId → Value → Value → Option Bool} (hr : ∀ (t : TypeId) (x y : Value) (b : Bool), plain2 x = true → plain2 y = true → r t x y = some b → ∀ w, (Op.equalIn d t x y).run P w = .ok b w)
    {e : TypeId} {c : Nat} {xs ys : Array Value} (hx : xs.toList.all plain1 = true) (hy : ys.toList.all plain1 = true) : ∀ {is : List Nat} {b : Bool}, eqIs P r e c xs.toList ys.toList is = some b → ∀ w, (Op.eqItems d e c xs ys is).run P w = .ok b w
  | [], b, h, w => by cases h; simp [Op.eqItems]
  | i :: is, b, h, w => by
    simp only [eqIs] at h
    split at h
    · rename_i ag n hag
      split at h
      · rename_i a u ha hu
        obtain ⟨r1', p1⟩ := part_run w hag hx ha
        obtain ⟨r2', p2⟩ := part_run w hag hy hu
        split at h
        · rename_i hrr
          simp only [Op.eqItems, Sem.run_bind, r1', r2', Result.andThen_ok, hr _ _ _ _ p1 p2 hrr w]
          exact eqIs_run hr hx hy h w
        · rename_i hrr
          cases h
          simp only [Op.eqItems, Sem.run_bind, r1', r2', Result.andThen_ok, hr _ _ _ _ p1 p2 hrr w]
          simp
        · cases h
      · cases h
    · cases h
theorem eqD_run {P : Program} : ∀ {d : Nat} {t : TypeId} {x y : Value} {b : Bool}, plain2 x = true → plain2 y = true → eqD P d t x y = some b → ∀ w, (Op.equalIn d t x y).run P w = .ok b w
  | 0, _, _, _, _, _, _, h, _ => by cases h
  | d + 1, t, x, y, b, hx, hy, h, w => by
    unfold eqD at h
    split at h
    · rename_i hu
      split at h
      · cases h; exact run_equalIn_bool' w d t _ _ hu
      · cases h
    · rename_i k hu
      split at h
      · split at h
        · rename_i hk; cases h; subst hk; exact run_equalIn_int w d t _ _ _ _ hu
        · cases h
      · cases h
    · rename_i hu
      split at h
      · cases h; exact run_equalIn_string w d t _ _ hu
      · cases h
    · rename_i fs hu
      split at h
      · rename_i xs ys
        split at h
        · cases h
        · rename_i hst
          have hf : P.fieldsOf t = fs := by simp [Program.fieldsOf, hu]
          rw [run_equalIn_agg w d t xs ys (by rw [hf]; exact hu) (by simpa using hst), hf]
          exact eqFs_run (fun t x y b hx hy h w => eqD_run hx hy h w) hx hy h w
      · cases h
    · rename_i n e hu
      split at h
      · rename_i xs ys
        split at h
        · rename_i ai hai
          obtain ⟨ab, an⟩ := ai
          obtain ⟨_, i, _, hii, _, _, _⟩ := aggInfo_spec hai
          rw [run_equalIn_array w d xs ys hu hii]
          exact eqIs_run (fun t x y b hx hy h w => eqD_run hx hy h w) hx hy h w
        · cases h
      · cases h
    · cases h

/-! ### operations, with calls -/
def bodyB (P : Program) (f : FuncId) : Bool := match P.funcs[f]? with | some fn => fn.body.isSome && !(fn.name == "runtime.NumGoroutine") | none => false
theorem bodyB_spec {P : Program} {f : FuncId} (h : bodyB P f = true) : ∃ fn, P.funcs[f]? = some fn ∧ fn.body.isSome = true ∧ (fn.name == "runtime.NumGoroutine") = false := by
  unfold bodyB at h
  split at h
  · rename_i fn hf
    simp only [Bool.and_eq_true, Bool.not_eq_true'] at h
    exact ⟨fn, hf, h.1, h.2⟩
  · cases h
def crecv (h : CH) : RMode → Value → Option Value
  | .same, u => some u
  | .load b n, u => match u with
    | .pointer (some a) => cLoad h b n (.pointer (some a))
    | _ => none
theorem den_recv {W : World} {h : CH} (m : RMode) (u : Value) : recvOf (den W h) m u = crecv h m u := by
  cases m with
  | same => rfl
  | load b n => unfold recvOf crecv; simp only [den_sLoad]; rfl
abbrev Callee' := FuncId → List Value → CH → Option (Value × CH)
def cop (P : Program) (call : Callee') (h : CH) (t : Tm) (op : LOp) : Option (Value × CH) :=
  match op with
  | .call f args => call f (args.map (ev t)) h
  | .callv x args => match ev t x with
    | .func (.func f) a c => if bodyB P f then call f (a.toList ++ (args.map (ev t) ++ c.toList)) h else none
    | _ => none
  | .invoke x name args => match ev t x with
    | .iface ty u => match methodOf P ty name with
      | some (f, mode) => if bodyB P f then match crecv h mode u with
        | some recv => call f (recv :: args.map (ev t)) h
        | none => none else none
      | none => none
    | _ => none
  | .eqR neq xT x y => match ev t x, ev t y with
    | .agg xs, .agg ys => if xs.toList.all plain1 && ys.toList.all plain1 then match eqD P 10000 xT (.agg xs) (.agg ys) with
      | some b => some (.bool (if neq then !b else b), h)
      | none => none else none
    | _, _ => none
  | op => cstep h t op
def OkCall (P : Program) (call : Callee') : Prop := ∀ f args h v h', call f args h = some (v, h') → ∀ W, T P f args (den W h) v (den W h')
theorem cop_sound {P : Program} {call : Callee'} (hc : OkCall P call) {W : World} {h h' : CH} {t : Tm} {op : LOp} {v : Value} (hs : cop P call h t op = some (v, h')) : Do P t (den W h) op v (den W h') := by
  cases op
  case call f args => exact hc _ _ _ _ _ hs W
  case callv x args =>
    simp only [cop] at hs
    split at hs
    · rename_i f a c hx
      split at hs
      · rename_i hb
        exact ⟨f, a, c, hx, bodyB_spec hb, hc _ _ _ _ _ hs W⟩
      · cases hs
    · cases hs
  case invoke x name args =>
    simp only [cop] at hs
    split at hs
    · rename_i ty u hx
      split at hs
      · rename_i f mode hm
        split at hs
        · rename_i hb
          split at hs
          · rename_i recv hr
            exact ⟨ty, u, f, mode, recv, hx, hm, by rw [den_recv]; exact hr, bodyB_spec hb, hc _ _ _ _ _ hs W⟩
          · cases hs
        · cases hs
      · cases hs
    · cases hs
  case eqR neq xT x y =>
    simp only [cop] at hs
    split at hs
    · rename_i xs ys hx hy
      split at hs
      · rename_i hp
        simp only [Bool.and_eq_true] at hp
        split at hs
        · rename_i b hb
          cases hs
          exact ⟨rfl, xs, ys, b, hx, hy, hp.1, hp.2, eqD_run hp.1 hp.2 hb, rfl⟩
        · cases hs
      · cases hs
    · cases hs
  all_goals exact cstep_sound (P := P) hs
theorem cop_same {P : Program} {call : Callee'} {h h' : CH} {t : Tm} {op : LOp} {v : Value} (hp : (isPure op || isRead op) = true) (hs : cop P call h t op = some (v, h')) : h' = h := by
  cases op <;> (first | (simp [isPure, isRead] at hp; done) | skip)
  case eqR neq xT x y =>
    simp only [cop] at hs
    split at hs
    · split at hs
      · split at hs
        · cases hs; rfl
        · cases hs
      · cases hs
    · cases hs
  all_goals (simp only [cop, cstep] at hs; split at hs <;> first | (cases hs; rfl) | cases hs)

/-! ### regions -/
def tmOf (t : Tr Value) : Tm := fun i => match t.get i with | some v => v | none => undef
def tput (t : Tr Value) (d : Option Nat) (v : Value) : Tr Value := match d with | some d => t.put d (some v) | none => t
theorem tmOf_put (t : Tr Value) (d : Option Nat) (v : Value) : tmOf (tput t d v) = put (tmOf t) d v := by
  cases d with
  | none => rfl
  | some d =>
    funext i
    simp only [tput, tmOf, Tr.get_put, Ot.put]
    by_cases h : i = d <;> simp [h]
section
variable (P : Program) (call : Callee')
def icO : List LIns → Tr Value → CH → Option (Tr Value × CH)
  | [], t, h => some (t, h)
  | i :: rest, t, h => match wantedL i.guard (tmOf t) with
    | true => match cop P call h (tmOf t) i.op with
      | some (v, h') => icO rest (tput t i.dst v) h'
      | none => none
    | false => icO rest (tput t i.dst undef) h
structure CPend where
  t : Tr Value
  op : LOp
  v : Value
  hi : Nat
def chk (h : CH) (t : Tr Value) (op : LOp) (v : Value) : Bool := (isPure op || isRead op) && match cop P call h (tmOf t) op with | some (u, _) => veq 10 u v | none => false
def icD : List DIns → CH → List CH → List CPend → Tr Value → Option (Tr Value × CH)
  | [], h, _, _, t => some (t, h)
  | i :: rest, h, hs, pend, t => match wantedL i.ins.guard (tmOf t) with
    | true => match i.kind with
      | .pure => if isPure i.ins.op then match cop P call h (tmOf t) i.ins.op with
        | some (v, _) => icD rest h hs pend (tput t i.ins.dst v)
        | none => none else none
      | .read => if isRead i.ins.op then match cop P call h (tmOf t) i.ins.op with
        | some (v, _) => if (hs.take (hs.length - i.lo)).all (fun h2 => chk P call h2 t i.ins.op v) then icD rest h hs (⟨t, i.ins.op, v, i.hi⟩ :: pend) (tput t i.ins.dst v) else none
        | none => none else none
      | .heavy => match cop P call h (tmOf t) i.ins.op with
        | some (v, h') => if pend.all (fun p => !decide (hs.length + 1 ≤ p.hi) || chk P call h' p.t p.op p.v) then icD rest h' (h :: hs) pend (tput t i.ins.dst v) else none
        | none => none
    | false => match i.kind with
      | .heavy => if pend.all (fun p => !decide (hs.length + 1 ≤ p.hi) || chk P call h p.t p.op p.v) then icD rest h (h :: hs) pend (tput t i.ins.dst undef) else none
      | _ => icD rest h hs pend (tput t i.ins.dst undef)
/-- Code. -/
def icode : Nat → LCode → Tr Value → CH → Option (Exit × Tr Value × CH)
  | 0, _, _, _ => none
  | n + 1, c, t, h => match c with
    | .skip => some (.normal, t, h)
    | .region l => match icO P call l t h with | some (t', h') => some (.normal, t', h') | none => none
    | .draw l => match icD P call l h [] [] t with | some (t', h') => some (.normal, t', h') | none => none
    | .alts _ => none
    | .tree _ => none
    | .seq a b => match icode n a t h with
      | some (e, t', h') => match e with
        | .normal => icode n b t' h'
        | e => some (e, t', h')
      | none => none
    | .cond c a b => match ev (tmOf t) c with
      | .bool true => icode n a t h
      | .bool false => icode n b t h
      | _ => none
    | .block id c => match icode n c t h with
      | some (e, t', h') => match e with
        | .exit id' => if id' = id then some (.normal, t', h') else some (.exit id', t', h')
        | e => some (e, t', h')
      | none => none
    | .loop c => match icode n c t h with
      | some (e, t', h') => match e with
        | .normal => icode n (.loop c) t' h'
        | e => some (e, t', h')
      | none => none
    | .exit id => some (.exit id, t, h)
    | .ret => some (.ret, t, h)
/-- For each of them, all together. -/
def onAll {α β : Type} (g : α → Option (List β)) : List α → Option (List β)
  | [] => some []
  | a :: l => match g a with
    | some x => match onAll g l with
      | some y => some (x ++ y)
      | none => none
    | none => none
/-- A tree of orders: all that may come of it. -/
def icT : DT → Tr Value → CH → Option (List (Tr Value × CH))
  | .done, t, h => some [(t, h)]
  | .fail, _, _ => none
  | .stop, _, _ => some []
  | .light i r, t, h => match wantedL i.guard (tmOf t) with
    | true => if isPure i.op || isRead i.op then match cop P call h (tmOf t) i.op with
      | some (v, _) => icT r (tput t i.dst v) h
      | none => none else none
    | false => icT r (tput t i.dst undef) h
  | .again i r, t, h => match wantedL i.guard (tmOf t) with
    | true => match i.dst with
      | some s => if chk P call h t i.op (tmOf t s) then icT r t h else none
      | none => none
    | false => icT r t h
  | .fork i s r, t, h => match (match wantedL i.guard (tmOf t) with
      | true => match cop P call h (tmOf t) i.op with
        | some (v, h') => icT s (tput t i.dst v) h'
        | none => none
      | false => icT s (tput t i.dst undef) h) with
    | some x => match icT r t h with
      | some y => some (x ++ y)
      | none => none
    | none => none
/-- Code with regions of many orders: all that may come of it. -/
def icodeL : Nat → LCode → Tr Value → CH → Option (List (Exit × Tr Value × CH))
  | 0, _, _, _ => none
  | n + 1, c, t, h => match c with
    | .skip => some [(.normal, t, h)]
    | .region l => match icO P call l t h with | some (t', h') => some [(.normal, t', h')] | none => none
    | .draw l => match icD P call l h [] [] t with | some (t', h') => some [(.normal, t', h')] | none => none
    | .alts ls => onAll (fun l => match icD P call l h [] [] t with | some (t', h') => some [(Exit.normal, t', h')] | none => none) ls
    | .tree d => match icT P call d t h with | some os => some (os.map fun o => (Exit.normal, o.1, o.2)) | none => none
    | .seq a b => match icodeL n a t h with
      | some os => onAll (fun o => match o.1 with
        | .normal => icodeL n b o.2.1 o.2.2
        | e => some [(e, o.2.1, o.2.2)]) os
      | none => none
    | .cond c a b => match ev (tmOf t) c with
      | .bool true => icodeL n a t h
      | .bool false => icodeL n b t h
      | _ => none
    | .block id c => match icodeL n c t h with
      | some os => some (os.map fun o => match o.1 with
        | .exit id' => if id' = id then (.normal, o.2.1, o.2.2) else (.exit id', o.2.1, o.2.2)
        | e => (e, o.2.1, o.2.2))
      | none => none
    | .loop c => match icodeL n c t h with
      | some os => onAll (fun o => match o.1 with
        | .normal => icodeL n (.loop c) o.2.1 o.2.2
        | e => some [(e, o.2.1, o.2.2)]) os
      | none => none
    | .exit id => some [(.exit id, t, h)]
    | .ret => some [(.ret, t, h)]
end
section
variable {P : Program} {call : Callee'}
theorem onAll_mem {α β : Type} {g : α → Option (List β)} : ∀ {l : List α} {r : List β}, onAll g l = some r → ∀ a ∈ l, ∃ x, g a = some x ∧ ∀ b ∈ x, b ∈ r
  | [], r, h, a, ha => by cases ha
  | a0 :: l, r, h, a, ha => by
    simp only [onAll] at h
    split at h
    · rename_i x hx
      split at h
      · rename_i y hy
        cases h
        rcases List.mem_cons.1 ha with rfl | ha
        · exact ⟨x, hx, fun b hb => List.mem_append_left _ hb⟩
        · obtain ⟨z, h1, h2⟩ := onAll_mem hy a ha
          exact ⟨z, h1, fun b hb => List.mem_append_right _ (h2 b hb)⟩
      · cases h
    · cases h
theorem icO_sound (hc : OkCall P call) {W : World} {Q : Tm → Heap → Prop} : ∀ {l : List LIns} {t t' : Tr Value} {h h' : CH}, icO P call l t h = some (t', h') → Q (tmOf t') (den W h') → wpO P l Q (tmOf t) (den W h)
  | [], t, t', h, h', hs, hq => by cases hs; exact hq
  | i :: rest, t, t', h, h', hs, hq => by
    simp only [icO] at hs
    simp only [wpO]
    split at hs
    · rename_i hw
      rw [if_pos hw]
      split at hs
      · rename_i v h1 hop
        refine ⟨v, den W h1, cop_sound hc hop, ?_⟩
        rw [← tmOf_put]
        exact icO_sound hc hs hq
      · cases hs
    · rename_i hw
      rw [if_neg (by rw [hw]; decide), ← tmOf_put]
      exact icO_sound hc hs hq
theorem chk_sound (hc : OkCall P call) {W : World} {h : CH} {t : Tr Value} {op : LOp} {v : Value} (hk : chk P call h t op v = true) : Do P (tmOf t) (den W h) op v (den W h) := by
  simp only [chk, Bool.and_eq_true] at hk
  obtain ⟨h1, h2⟩ := hk
  split at h2
  · rename_i u h' hop
    have e := cop_same h1 hop
    subst e
    have := cop_sound hc (W := W) hop
    rw [veq_eq h2] at this
    exact this
  · cases h2
def pdp (p : CPend) : Pend := ⟨tmOf p.t, p.op, p.v, p.hi⟩
theorem pend_sound (hc : OkCall P call) {W : World} {h : CH} {k : Nat} {pend : List CPend} (hp : pend.all (fun p => !decide (k ≤ p.hi) || chk P call h p.t p.op p.v) = true) :
    ∀ p ∈ pend.map pdp, k ≤ p.hi → Do P p.t (den W h) p.op p.v (den W h) := by
  intro p hm hk
  obtain ⟨q, hq, rfl⟩ := List.mem_map.1 hm
  have := List.all_eq_true.1 hp q hq
  simp only [Bool.or_eq_true, Bool.not_eq_true', decide_eq_false_iff_not] at this
  rcases this with h1 | h1
  · exact absurd hk h1
  · exact chk_sound hc h1
theorem icD_sound (hc : OkCall P call) {W : World} {Q : Tm → Heap → Prop} : ∀ {l : List DIns} {h : CH} {hs : List CH} {pend : List CPend} {t t' : Tr Value} {h' : CH}, icD P call l h hs pend t = some (t', h') → Q (tmOf t') (den W h') →
    wpD P l (den W h :: hs.map (den W)) (pend.map pdp) Q (tmOf t)
  | [], h, hs, pend, t, t', h', hr, hq => by cases hr; exact hq
  | i :: rest, h, hs, pend, t, t', h', hr, hq => by
    simp only [icD] at hr
    simp only [wpD]
    split at hr
    · rename_i hw
      rw [if_pos hw]
      cases hk : i.kind <;> simp only [hk] at hr ⊢
      · split at hr
        · rename_i hp
          split at hr
          · rename_i v h1 hop
            have e := cop_same (by simp [hp]) hop
            subst e
            refine ⟨v, cop_sound hc hop, ?_⟩
            rw [← tmOf_put]
            exact icD_sound hc hr hq
          · cases hr
        · cases hr
      · split at hr
        · rename_i hp
          split at hr
          · rename_i v h1 hop
            have e := cop_same (by simp [hp]) hop
            subst e
            split at hr
            · rename_i hall
              refine ⟨v, cop_sound hc hop, ?_, ?_⟩
              · intro H2 hH2
                rw [List.length_map, ← List.map_take] at hH2
                obtain ⟨h2, hm, rfl⟩ := List.mem_map.1 hH2
                exact chk_sound hc (List.all_eq_true.1 hall h2 hm)
              · rw [← tmOf_put]
                have := icD_sound hc (W := W) (Q := Q) hr hq
                simpa only [List.map_cons, pdp] using this
            · cases hr
          · cases hr
        · cases hr
      · split at hr
        · rename_i v h1 hop
          split at hr
          · rename_i hall
            refine ⟨v, den W h1, cop_sound hc hop, ?_, ?_⟩
            · rw [List.length_map]; exact pend_sound hc hall
            · rw [← tmOf_put]
              have := icD_sound hc (W := W) (Q := Q) hr hq
              simpa only [List.map_cons] using this
          · cases hr
        · cases hr
    · rename_i hw
      rw [if_neg (by rw [hw]; decide)]
      cases hk : i.kind <;> simp only [hk] at hr ⊢
      · rw [← tmOf_put]; exact icD_sound hc hr hq
      · rw [← tmOf_put]; exact icD_sound hc hr hq
      · split at hr
        · rename_i hall
          refine ⟨?_, ?_⟩
          · rw [List.length_map]; exact pend_sound hc hall
          · rw [← tmOf_put]
            have := icD_sound hc (W := W) (Q := Q) hr hq
            simpa only [List.map_cons] using this
        · cases hr
theorem icode_sound (hc : OkCall P call) {W : World} : ∀ {n : Nat} {c : LCode} {t t' : Tr Value} {h h' : CH} {e : Exit}, icode P call n c t h = some (e, t', h') → ∀ {Q : Post}, Q e (tmOf t') (den W h') → wpA P c Q (tmOf t) (den W h)
  | 0, _, _, _, _, _, _, hs, _, _ => by cases hs
  | n + 1, c, t, t', h, h', e, hs, Q, hq => by
    cases c with
    | skip => simp only [icode] at hs; cases hs; exact hq
    | region l =>
      simp only [icode] at hs
      split at hs
      · rename_i t1 h1 ho; cases hs; exact icO_sound hc ho hq
      · cases hs
    | draw l =>
      simp only [icode] at hs
      split at hs
      · rename_i t1 h1 ho; cases hs; exact icD_sound hc (hs := []) (pend := []) ho hq
      · cases hs
    | alts ls => simp only [icode] at hs; cases hs
    | tree d => simp only [icode] at hs; cases hs
    | seq a b =>
      simp only [icode] at hs
      split at hs
      · rename_i e1 t1 h1 ha
        show wpA P a (thenA (wpA P b Q) Q) (tmOf t) (den W h)
        split at hs
        · exact icode_sound hc ha (Q := thenA (wpA P b Q) Q) (icode_sound hc (W := W) hs hq)
        · rename_i he
          cases hs
          refine icode_sound hc ha (Q := thenA (wpA P b Q) Q) ?_
          cases e <;> first | exact hq | exact absurd rfl he
      · cases hs
    | cond x a b =>
      simp only [icode] at hs
      simp only [wpA]
      split at hs
      · rename_i hx; simp only [hx]; exact icode_sound hc hs hq
      · rename_i hx; simp only [hx]; exact icode_sound hc hs hq
      · cases hs
    | block id c =>
      simp only [icode] at hs
      split at hs
      · rename_i e1 t1 h1 ha
        show wpA P c (blockA id Q) (tmOf t) (den W h)
        refine icode_sound hc ha (Q := blockA id Q) ?_
        split at hs
        · rename_i id'
          split at hs
          · rename_i hid; cases hs; simp only [blockA, hid, if_true]; exact hq
          · rename_i hid; cases hs; simp only [blockA, hid, if_false]; exact hq
        · rename_i he
          cases hs
          cases e <;> first | exact hq | exact absurd rfl (he _)
      · cases hs
    | loop c =>
      simp only [icode] at hs
      split at hs
      · rename_i e1 t1 h1 ha
        split at hs
        · obtain ⟨k, hk⟩ : wpA P (.loop c) Q (tmOf t1) (den W h1) := icode_sound hc hs hq
          exact ⟨k + 1, icode_sound hc ha (Q := thenA (iterA (wpA P c) Q k) Q) hk⟩
        · rename_i he
          cases hs
          refine ⟨1, icode_sound hc ha (Q := thenA (iterA (wpA P c) Q 0) Q) ?_⟩
          cases e <;> first | exact hq | exact absurd rfl he
      · cases hs
    | exit id => simp only [icode] at hs; cases hs; exact hq
    | ret => simp only [icode] at hs; cases hs; exact hq
theorem icT_sound (hc : OkCall P call) {W : World} {Q : Tm → Heap → Prop} : ∀ {d : DT} {t : Tr Value} {h : CH} {os : List (Tr Value × CH)}, icT P call d t h = some os → (∀ o ∈ os, Q (tmOf o.1) (den W o.2)) → wpT P d Q (tmOf t) (den W h) := by
  intro d
  induction d with
  | done => intro t h os hs hq; simp only [icT] at hs; cases hs; exact hq (t, h) (by simp)
  | fail => intro t h os hs hq; cases hs
  | stop => intro t h os hs hq; trivial
  | light i r ih =>
    intro t h os hs hq
    simp only [icT] at hs
    simp only [wpT]
    split at hs
    · rename_i hw
      rw [if_pos hw]
      split at hs
      · rename_i hp
        split at hs
        · rename_i v h1 hop
          have e := cop_same hp hop
          subst e
          refine ⟨v, cop_sound hc hop, ?_⟩
          rw [← tmOf_put]
          exact ih hs hq
        · cases hs
      · cases hs
    · rename_i hw
      rw [if_neg (by rw [hw]; decide), ← tmOf_put]
      exact ih hs hq
  | again i r ih =>
    intro t h os hs hq
    simp only [icT] at hs
    simp only [wpT]
    split at hs
    · rename_i hw
      split at hs
      · rename_i s hd
        split at hs
        · rename_i hk
          refine ⟨?_, ih hs hq⟩
          rw [if_pos hw, hd]
          exact ⟨_, chk_sound hc hk, rfl⟩
        · cases hs
      · cases hs
    · rename_i hw
      refine ⟨?_, ih hs hq⟩
      rw [if_neg (by rw [hw]; decide)]
      trivial
  | fork i s r ihs ihr =>
    intro t h os hs hq
    simp only [icT] at hs
    simp only [wpT]
    split at hs
    · rename_i x hx
      split at hs
      · rename_i y hy
        cases hs
        refine ⟨?_, ihr hy (fun o ho => hq o (List.mem_append.2 (.inr ho)))⟩
        split at hx
        · rename_i hw
          rw [if_pos hw]
          split at hx
          · rename_i v h1 hop
            refine ⟨v, den W h1, cop_sound hc hop, ?_⟩
            rw [← tmOf_put]
            exact ihs hx (fun o ho => hq o (List.mem_append.2 (.inl ho)))
          · cases hx
        · rename_i hw
          rw [if_neg (by rw [hw]; decide), ← tmOf_put]
          exact ihs hx (fun o ho => hq o (List.mem_append.2 (.inl ho)))
      · cases hs
    · cases hs
theorem icodeL_sound (hc : OkCall P call) {W : World} : ∀ {n : Nat} {c : LCode} {t : Tr Value} {h : CH} {os : List (Exit × Tr Value × CH)}, icodeL P call n c t h = some os → ∀ {Q : Post}, (∀ o ∈ os, Q o.1 (tmOf o.2.1) (den W o.2.2)) → wpA P c Q (tmOf t) (den W h)
  | 0, _, _, _, _, hs, _, _ => by cases hs
  | n + 1, c, t, h, os, hs, Q, hq => by
    cases c with
    | skip => simp only [icodeL] at hs; cases hs; exact hq (.normal, t, h) (by simp)
    | region l =>
      simp only [icodeL] at hs
      split at hs
      · rename_i t1 h1 ho; cases hs; exact icO_sound hc ho (hq (.normal, t1, h1) (by simp))
      · cases hs
    | draw l =>
      simp only [icodeL] at hs
      split at hs
      · rename_i t1 h1 ho; cases hs; exact icD_sound hc (hs := []) (pend := []) ho (hq (.normal, t1, h1) (by simp))
      · cases hs
    | alts ls =>
      simp only [icodeL] at hs
      intro l hl
      obtain ⟨x, hx, hsub⟩ := onAll_mem hs l hl
      split at hx
      · rename_i t1 h1 ho
        cases hx
        exact icD_sound hc (hs := []) (pend := []) ho (hq (.normal, t1, h1) (hsub _ (by simp)))
      · cases hx
    | tree d =>
      simp only [icodeL] at hs
      split at hs
      · rename_i os1 ho
        cases hs
        exact icT_sound hc ho (fun o hm => hq (Exit.normal, o.1, o.2) (List.mem_map.2 ⟨o, hm, rfl⟩))
      · cases hs
    | seq a b =>
      simp only [icodeL] at hs
      split at hs
      · rename_i os1 ha
        refine icodeL_sound hc ha (Q := thenA (wpA P b Q) Q) ?_
        rintro ⟨e, t1, h1⟩ ho
        obtain ⟨x, hx, hsub⟩ := onAll_mem hs _ ho
        simp only at hx
        split at hx
        · exact icodeL_sound hc (W := W) hx (fun o2 ho2 => hq o2 (hsub o2 ho2))
        · rename_i he
          cases hx
          have := hq (e, t1, h1) (hsub _ (by simp))
          cases e <;> first | exact this | exact absurd rfl he
      · cases hs
    | cond x a b =>
      simp only [icodeL] at hs
      simp only [wpA]
      split at hs
      · rename_i hx; simp only [hx]; exact icodeL_sound hc hs hq
      · rename_i hx; simp only [hx]; exact icodeL_sound hc hs hq
      · cases hs
    | block id c =>
      simp only [icodeL] at hs
      split at hs
      · rename_i os1 ha
        cases hs
        refine icodeL_sound hc ha (Q := blockA id Q) ?_
        rintro ⟨e, t1, h1⟩ ho
        have := hq _ (List.mem_map.2 ⟨(e, t1, h1), ho, rfl⟩)
        simp only at this
        split at this
        · split at this
          · rename_i hid; simp only [blockA, hid, if_true]; exact this
          · rename_i hid; simp only [blockA, hid, if_false]; exact this
        · rename_i he
          cases e <;> first | exact this | exact absurd rfl (he _)
      · cases hs
    | loop c =>
      simp only [icodeL] at hs
      split at hs
      · rename_i os1 ha
        -- each outcome of a round needs so many rounds more; the greatest number is enough
        have key : ∀ l : List (Exit × Tr Value × CH), (∀ o ∈ l, o ∈ os1) → ∃ k, ∀ o ∈ l, thenA (iterA (wpA P c) Q k) Q o.1 (tmOf o.2.1) (den W o.2.2) := by
          intro l
          induction l with
          | nil => intro _; exact ⟨0, fun o ho => by cases ho⟩
          | cons o l ih =>
            intro hl
            obtain ⟨k, hk⟩ := ih (fun o' ho' => hl o' (by simp [ho']))
            obtain ⟨k2, hk2⟩ : ∃ k2, thenA (iterA (wpA P c) Q k2) Q o.1 (tmOf o.2.1) (den W o.2.2) := by
              obtain ⟨x, hx, hsub⟩ := onAll_mem hs o (hl o (by simp))
              obtain ⟨e, t1, h1⟩ := o
              simp only at hx
              split at hx
              · obtain ⟨k2, hk2⟩ : wpA P (.loop c) Q (tmOf t1) (den W h1) := icodeL_sound hc (W := W) hx (fun o2 ho2 => hq o2 (hsub o2 ho2))
                exact ⟨k2, hk2⟩
              · rename_i he
                cases hx
                have := hq (e, t1, h1) (hsub _ (by simp))
                refine ⟨0, ?_⟩
                cases e <;> first | exact this | exact absurd rfl he
            refine ⟨max k k2, fun o' ho' => ?_⟩
            have up : ∀ (j : Nat) (o1 : Exit × Tr Value × CH), j ≤ max k k2 → thenA (iterA (wpA P c) Q j) Q o1.1 (tmOf o1.2.1) (den W o1.2.2) → thenA (iterA (wpA P c) Q (max k k2)) Q o1.1 (tmOf o1.2.1) (den W o1.2.2) :=
              fun j o1 hj => thenA_mono (fun t2 H2 h2 => iterA_le h2 hj) (fun _ _ _ h => h) _ _ _
            rcases List.mem_cons.1 ho' with rfl | ho'
            · exact up k2 _ (by omega) hk2
            · exact up k _ (by omega) (hk o' ho')
        obtain ⟨k, hk⟩ := key os1 (fun o ho => ho)
        exact ⟨k + 1, icodeL_sound hc ha (Q := thenA (iterA (wpA P c) Q k) Q) hk⟩
      · cases hs
    | exit id => simp only [icodeL] at hs; cases hs; exact hq (.exit id, t, h) (by simp)
    | ret => simp only [icodeL] at hs; cases hs; exact hq (.ret, t, h) (by simp)
end

/-! ### functions -/
def initTr : List Value → Nat → Tr Value → Tr Value
  | [], _, t => t
  | v :: vs, i, t => initTr vs (i + 1) (t.put i (some v))
theorem initTr_get : ∀ (vs : List Value) (i : Nat) (t : Tr Value) (k : Nat), tmOf (initTr vs i t) k = if i ≤ k ∧ k < i + vs.length then vs.getD (k - i) undef else tmOf t k
  | [], i, t, k => by
    have : ¬ (i ≤ k ∧ k < i + ([] : List Value).length) := by simp
    rw [if_neg this]; rfl
  | v :: vs, i, t, k => by
    simp only [initTr]
    rw [initTr_get vs (i + 1) _ k]
    have e := congrFun (tmOf_put t (some i) v) k
    simp only [tput] at e
    rw [e]
    simp only [Ot.put, List.length_cons]
    by_cases h1 : i + 1 ≤ k ∧ k < i + 1 + vs.length
    · have h2 : i ≤ k ∧ k < i + (vs.length + 1) := by omega
      rw [if_pos h1, if_pos h2]
      have : k - i = (k - (i + 1)) + 1 := by omega
      rw [this, List.getD_cons_succ]
    · rw [if_neg h1]
      by_cases h3 : k = i
      · subst h3
        have h2 : k ≤ k ∧ k < k + (vs.length + 1) := by omega
        rw [if_pos rfl, if_pos h2]
        simp
      · have h2 : ¬ (i ≤ k ∧ k < i + (vs.length + 1)) := by omega
        rw [if_neg h3, if_neg h2]
theorem initTr_eq (args : List Value) : tmOf (initTr args 0 .leaf) = initT args := by
  funext k
  rw [initTr_get]
  show _ = args.getD k undef
  by_cases h : 0 ≤ k ∧ k < 0 + args.length
  · rw [if_pos h, Nat.sub_zero]
  · rw [if_neg h]
    have : args.length ≤ k := by omega
    simp [tmOf, Tr.get, List.getD_eq_getElem?_getD, List.getElem?_eq_none this]
def cresV (t : Tm) (h : CH) : List LRes → Option (List Value)
  | [] => some []
  | .tmp i :: rest => if notTup (t i) then match cresV t h rest with | some r => some (t i :: r) | none => none else none
  | .cell i b k :: rest => match cLoad h b k (t i) with
    | some v => if notTup v then match cresV t h rest with | some r => some (v :: r) | none => none else none
    | none => none
theorem den_resV {W : World} {t : Tm} {h : CH} : ∀ (lr : List LRes), resV t (den W h) lr = cresV t h lr
  | [] => rfl
  | .tmp i :: rest => by
    simp only [resV, cresV, den_resV rest]
    split
    · cases cresV t h rest <;> rfl
    · rfl
  | .cell i b k :: rest => by
    simp only [resV, cresV, den_resV rest, den_sLoad]
    cases cLoad h b k (t i) with
    | none => rfl
    | some v =>
      simp only [Option.bind_some]
      split
      · cases cresV t h rest <;> rfl
      · rfl
/-- The blocks that were there are as they were. -/
def blkEq (a b : Option Blk) : Bool := match a, b with
  | none, none => true
  | some x, some y => Nat.beq x.ty y.ty && Nat.beq x.sz y.sz && lEq (veq 10) x.cells y.cells
  | _, _ => false
theorem blkEq_eq {a b : Option Blk} (h : blkEq a b = true) : a = b := by
  unfold blkEq at h
  split at h
  · rfl
  · rename_i x y
    simp only [Bool.and_eq_true, Nat.beq_eq] at h
    obtain ⟨tx, sx, cx⟩ := x
    obtain ⟨ty, sy, cy⟩ := y
    simp only at h
    obtain ⟨⟨rfl, rfl⟩, h3⟩ := h
    rw [lEq_eq (fun a b => veq_eq) h3]
  · cases h
def oldSame (h h' : CH) : Nat → Bool
  | 0 => true
  | n + 1 => blkEq (h'.tr.get n) (h.tr.get n) && oldSame h h' n
theorem oldSame_blk {h h' : CH} : ∀ {n : Nat}, oldSame h h' n = true → ∀ b, b < n → h'.tr.get b = h.tr.get b
  | 0, _, b, hb => by omega
  | n + 1, hs, b, hb => by
    simp only [oldSame, Bool.and_eq_true] at hs
    by_cases e : b = n
    · subst e; exact blkEq_eq hs.1
    · exact oldSame_blk hs.2 b (by omega)
structure FnE where
  x : Bool
  na : Nat
  nt : Nat
  lc : LCode
  lr : List LRes
def look : List (Nat × FnE) → Nat → Option FnE
  | [], _ => none
  | p :: l, f => match Nat.beq p.1 f with | true => some p.2 | false => look l f
/-- Each is its function's. -/
def TabOk (P : Program) : List (Nat × FnE) → Prop
  | [] => True
  | p :: l => (match p.2.x with | false => Light P p.1 p.2.na p.2.nt p.2.lc p.2.lr | true => LightX P p.1 p.2.na p.2.nt p.2.lc p.2.lr) ∧ TabOk P l
theorem look_ok {P : Program} : ∀ {l : List (Nat × FnE)} {f : Nat} {e : FnE}, TabOk P l → look l f = some e → (match e.x with | false => Light P f e.na e.nt e.lc e.lr | true => LightX P f e.na e.nt e.lc e.lr)
  | [], _, _, _, h => by cases h
  | p :: l, f, e, ho, h => by
    simp only [look] at h
    split at h
    · rename_i hb
      have : p.1 = f := Nat.beq_eq ▸ hb
      subst this
      cases h
      exact ho.1
    · exact look_ok ho.2 h
abbrev Spec := List (Nat × (List Value → CH → Option (Value × CH)))
def lookS : Spec → Nat → Option (List Value → CH → Option (Value × CH))
  | [], _ => none
  | p :: l, f => match Nat.beq p.1 f with | true => some p.2 | false => lookS l f
def SpecOk (P : Program) (s : Spec) : Prop := ∀ p ∈ s, ∀ args h v h', p.2 args h = some (v, h') → ∀ W, T P p.1 args (den W h) v (den W h')
theorem lookS_ok {P : Program} : ∀ {s : Spec} {f : Nat} {g : List Value → CH → Option (Value × CH)}, SpecOk P s → lookS s f = some g → ∀ args h v h', g args h = some (v, h') → ∀ W, T P f args (den W h) v (den W h')
  | [], _, _, _, h => by cases h
  | p :: l, f, e, ho, h => by
    simp only [lookS] at h
    split at h
    · rename_i hb
      have : p.1 = f := Nat.beq_eq ▸ hb
      subst this
      cases h
      exact ho p (by simp)
    · exact lookS_ok (fun q hq => ho q (by simp [hq])) h
def seenOk (h : CH) (lr : List LRes) (v : Value) (o : Exit × Tr Value × CH) : Bool :=
  (match o.1 with | .normal => true | .ret => true | _ => false) && (match cresV (tmOf o.2.1) o.2.2 lr with | some vs => veq 10 (packV vs) v | none => false) && Nat.ble h.next o.2.2.next && oldSame h o.2.2 h.next
def runF (P : Program) (tab : List (Nat × FnE)) (sp : Spec) (k : Nat) : Nat → Callee'
  | 0, _, _, _ => none
  | n + 1, f, args, h => match lookS sp f with
    | some g => g args h
    | none => match look tab f with
      | some e => match Nat.beq args.length e.na with
        | true => match e.x with
         | true => match icodeL P (runF P tab sp k n) k e.lc (initTr args 0 .leaf) h with
          | some ((x, t', h') :: os) => match cresV (tmOf t') h' e.lr with
            | some vs => match plain3 (packV vs) && ((x, t', h') :: os).all (fun o => seenOk h e.lr (packV vs) o) with
              | true => some (packV vs, h)
              | false => none
            | none => none
          | _ => none
         | false => match icode P (runF P tab sp k n) k e.lc (initTr args 0 .leaf) h with
          | some (x, t', h') => match x with
            | .normal => match cresV (tmOf t') h' e.lr with | some vs => some (packV vs, h') | none => none
            | .ret => match cresV (tmOf t') h' e.lr with | some vs => some (packV vs, h') | none => none
            | _ => none
          | none => none
        | false => none
      | none => none
theorem runF_sound {P : Program} (hm : P.follows .mixedOrders = true) {tab : List (Nat × FnE)} {sp : Spec} {k : Nat} (ht : TabOk P tab) (hsp : SpecOk P sp) : ∀ n, OkCall P (runF P tab sp k n)
  | 0 => fun f args h v h' hs => by cases hs
  | n + 1 => fun f args h v h' hs W => by
    simp only [runF] at hs
    split at hs
    · rename_i g hg; exact lookS_ok hsp hg _ _ _ _ hs W
    · split at hs
      · rename_i e he
        have hL := look_ok ht he
        split at hs
        · rename_i hna
          have hna' : args.length = e.na := Nat.beq_eq ▸ hna
          rw [← hna'] at hL
          split at hs
          · rename_i hx
            rw [hx] at hL
            simp only at hL
            split at hs
            · rename_i x t' h1 os hi
              split at hs
              · rename_i vs hvs
                split at hs
                · rename_i hok
                  simp only [Bool.and_eq_true] at hok
                  cases hs
                  refine T_seenX hm hL hok.1 ?_
                  rw [← initTr_eq]
                  refine icodeL_sound (runF_sound hm ht hsp n) (W := W) hi ?_
                  rintro ⟨e1, t2, h2⟩ ho
                  have := List.all_eq_true.1 hok.2 _ ho
                  simp only [seenOk, Bool.and_eq_true] at this
                  obtain ⟨⟨⟨p1, p2⟩, p3⟩, p4⟩ := this
                  refine ⟨by cases e1 <;> simp_all, ?_⟩
                  split at p2
                  · rename_i vs2 hvs2
                    refine ⟨vs2, by rw [den_resV]; exact hvs2, veq_eq p2, Nat.le_of_ble_eq_true p3, fun b hb => ?_⟩
                    exact oldSame_blk p4 b hb
                  · cases p2
                · cases hs
              · cases hs
            · cases hs
          rename_i hx0
          rw [hx0] at hL
          simp only at hL
          split at hs
          · rename_i x t' h1 hi
            have fin : ∀ (hx : x = .normal ∨ x = .ret), (match cresV (tmOf t') h1 e.lr with | some vs => some (packV vs, h1) | none => none) = some (v, h') → T P f args (den W h) v (den W h') := by
              intro hx hr
              split at hr
              · rename_i vs hvs
                cases hr
                refine T_eq hm hL ?_
                rw [← initTr_eq]
                refine icode_sound (runF_sound hm ht hsp n) (W := W) hi (Q := EndA (fun v1 H1 => v1 = packV vs ∧ H1 = den W h') e.lr) ?_
                exact ⟨hx, vs, by rw [den_resV]; exact hvs, rfl, rfl⟩
              · cases hr
            split at hs
            · exact fin (.inl rfl) hs
            · exact fin (.inr rfl) hs
            · cases hs
          · cases hs
        · cases hs
      · cases hs
/-- What a call does in every heap, if its arguments and what it answers hold no address: nothing of what is there changes. -/
theorem T_closed {P : Program} {f : FuncId} {args : List Value} {v : Value} {h' : CH} (hT : ∀ W, T P f args (den W CH.empty) v (den W h')) (hpa : ∀ a ∈ args, plain3 a = true) (hpv : plain3 v = true) (H : Heap) : T P f args H v H := by
  refine ⟨rfl, Nat.le_refl _, id, ?_⟩
  intro ρ w args' hR hargs
  have e : args' = args := by
    clear hT
    induction hargs with
    | nil => rfl
    | cons hab _ ih => rw [r3_plain3_eq (hpa _ (by simp)) hab, ih (fun a ha => hpa a (by simp [ha]))]
  subst e
  have hRe : Rep (den w CH.empty) (fun _ => (0, 0)) w :=
    { below := Below.refl _ _, lim := Nat.zero_le _, next := Nat.le_refl _, live := fun b k h => by simp [den, CH.empty, Tr.get] at h, row := fun b k h => by simp [den, CH.empty, Tr.get] at h,
      oth := fun b k h => by simp [den, CH.empty, Tr.get] at h, inj := fun b b' k k' h => by simp [den, CH.empty, Tr.get] at h }
  refine ((hT w).2.2.2 _ w args' hRe (All2.of_same fun a ha => plain3_self (hpa a ha))).mono ?_
  rintro en w' ⟨ρ', v', rfl, hle, hr, hR'⟩
  have hv : v' = v := r3_plain3_eq hpv hr
  subst hv
  have hb : Below w.heap.size w w' := hR'.below
  refine ⟨ρ, v', rfl, Cx.le.refl _, plain3_self hpv, ?_⟩
  have hsz := hR.below.size
  exact
    { below := hR.below.trans (hb.mono hsz), lim := hR.lim, next := hR.next, live := hR.live,
      row := fun b k hk h0 => (hR.row b k hk h0).same (hb.block _ (hR.row b k hk h0).lt),
      oth := fun b k hk h0 => (hR.oth b k hk h0).same (hb.block _ (hR.oth b k hk h0).lt), inj := hR.inj }
theorem specNil (P : Program) : SpecOk P [] := fun p hp => by cases hp
def isTrue : Option (Value × CH) → Bool
  | some (.bool b, _) => b
  | _ => false
/-- A function of no arguments that is reckoned to answer true does so in every heap. -/
theorem T_true {P : Program} (hm : P.follows .mixedOrders = true) {tab : List (Nat × FnE)} {sp : Spec} {k n : Nat} (ht : TabOk P tab) (hsp : SpecOk P sp) {f : FuncId} (hr : isTrue (runF P tab sp k n f [] CH.empty) = true) (H : Heap) : T P f [] H (.bool true) H := by
  cases h : runF P tab sp k n f [] CH.empty with
  | none => rw [h] at hr; cases hr
  | some p =>
    obtain ⟨v, h'⟩ := p
    rw [h] at hr
    have hv : v = .bool true := by
      cases v <;> first | (simp [isTrue] at hr; done) | (simp only [isTrue] at hr; rw [hr])
    subst hv
    exact T_closed (runF_sound hm ht hsp n f [] CH.empty _ _ h) (by simp) rfl H
end Go.Ot
