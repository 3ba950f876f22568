/-
  Part M: operations, lists of them, code: the machine does what the light code does.
-/
import Derived.Test.YtfmcnojojknkfaaOtL
set_option linter.unusedVariables false
set_option linter.unusedSimpArgs false
namespace Go.Ot
open Go.RowKit

theorem All2.map_of {α β γ : Type} {R : β → γ → Prop} {f : α → β} {g : α → γ} : ∀ {l : List α}, (∀ x ∈ l, R (f x) (g x)) → All2 R (l.map f) (l.map g)
  | [], _ => .nil
  | x :: l, h => .cons (h x (by simp)) (All2.map_of (fun y hy => h y (by simp [hy])))
theorem callFunc_run {P : Program} {f : FuncId} {fn : Func} (hf : P.funcs[f]? = some fn) (hb : fn.body.isSome = true) (hn : (fn.name == "runtime.NumGoroutine") = false) (args : Array Value) (w : World) :
    (callFunc f args).run P w = .ok (.enter f args) w := by
  have hb' : fn.body.isNone = false := by cases h : fn.body <;> simp_all
  simp only [callFunc, Sem.run_bind, run_program, Result.andThen_ok, hf, hn, hb', Bool.false_eq_true, if_false]
  rfl
/-- What a call's end says to the caller. -/
theorem upon_enter_of {P : Program} {o : Oper} {a : Act} {next : Act → World → Prop} {Q : Exit → Act → World → Prop} {f : FuncId} {args : Array Value} {w : World} {R : Value → World → Prop}
    (h : Calls P f args w fun e w' => ∃ v', e = .returned v' ∧ R v' w') (hn : ∀ v' w', R v' w' → next (a.put o.dst v') w') : o.upon P a next Q (.ok (.enter f args) w) := by
  rw [Oper.upon_enter]
  refine h.mono fun e w' he => ?_
  obtain ⟨v', rfl, hr⟩ := he
  exact hn _ _ hr
theorem do_base {P : Program} {t : Tm} {H H' : Heap} {op : LOp} {v : Value} (h : Do P t H op v H') : H'.base = H.base := by
  cases op <;> simp only [Do] at h <;> first
    | exact step_base h
    | exact h.1
    | (obtain ⟨_, _, _, _, _, h⟩ := h; exact h.1)
    | (obtain ⟨_, _, _, _, _, _, _, _, _, h⟩ := h; exact h.1)
    | rw [h.1]
theorem r2_plain_eq {c : Cx} {v v' : Value} (h : plain2 v = true) (hr : r2 c v v') : v' = v := by
  cases v with
  | agg cs =>
    obtain ⟨cs', rfl, hcs⟩ := hr
    simp only [plain2, List.all_eq_true] at h
    rw [Array.toList_inj.1 (all2_plain1_eq h hcs)]
  | _ => simp only [r2] at hr; simp only [plain2] at h; exact plain1_eq h hr
theorem all2_plain2_eq {c : Cx} {l m : List Value} (h : ∀ v ∈ l, plain2 v = true) (hr : All2 (r2 c) l m) : m = l := by
  induction hr with
  | nil => rfl
  | cons hr _ ih => rw [r2_plain_eq (h _ (by simp)) hr, ih (fun v hv => h v (by simp [hv]))]
theorem r3_plain3_eq {c : Cx} {v v' : Value} (h : plain3 v = true) (hr : r3 c v v') : v' = v := by
  cases v with
  | tuple cs =>
    obtain ⟨cs', rfl, hcs⟩ := hr
    simp only [plain3, List.all_eq_true] at h
    rw [Array.toList_inj.1 (all2_plain2_eq h hcs)]
  | _ => simp only [r3] at hr; simp only [plain3] at h; exact r2_plain_eq h hr
theorem lightOp_eqR {P : Program} {o : Oper} {neq : Bool} {xT : TypeId} {x y : Operand} (h : lightOp P o = some (.eqR neq xT x y)) :
    ∃ yT, o.op = .binOp (if neq then .neq else .eql) xT x y yT ∧ P.eqGuardType P.depth xT = false := by
  obtain ⟨dst, op, type, pos, after, guard⟩ := o
  cases op
  case binOp op xT' x' y' yT =>
    simp only [lightOp] at h
    split at h
    · rename_i neq' hneq
      have hop : op = (if neq' then .neq else .eql) := by
        unfold eqKind at hneq
        split at hneq <;> first | (cases hneq; rfl) | cases hneq
      split at h
      · cases h
      · cases h
      · cases h
      · split at h
        · cases h
        · split at h
          · rename_i hg
            cases h
            exact ⟨yT, by rw [hop], hg⟩
          · cases h
      · cases h
    · cases h
  all_goals (simp only [lightOp] at h <;> (repeat' split at h) <;> cases h)
theorem lightOp_call {P : Program} {o : Oper} {f : FuncId} {args : List Operand} (h : lightOp P o = some (.call f args)) :
    ∃ c : Call, o.op = .call c ∧ c.callee = .value (.func f) ∧ c.args.toList = args ∧ ∃ fn, P.funcs[f]? = some fn ∧ fn.body.isSome = true ∧ (fn.name == "runtime.NumGoroutine") = false := by
  obtain ⟨dst, op, type, pos, after, guard⟩ := o
  cases op
  case call c =>
    simp only [lightOp] at h
    split at h
    · rename_i f' hcal
      split at h
      · rename_i fn hfn
        split at h
        · rename_i hcond
          cases h
          simp only [Bool.and_eq_true, Bool.not_eq_true'] at hcond
          exact ⟨c, rfl, hcal, rfl, fn, hfn, hcond.1, hcond.2⟩
        · cases h
      · cases h
    · cases h
    · cases h
    · (repeat' split at h) <;> cases h
  all_goals (simp only [lightOp] at h <;> (repeat' split at h) <;> cases h)
theorem lightOp_callv {P : Program} {o : Oper} {x : Operand} {args : List Operand} (h : lightOp P o = some (.callv x args)) :
    ∃ c : Call, o.op = .call c ∧ c.callee = .value x ∧ c.args.toList = args := by
  obtain ⟨dst, op, type, pos, after, guard⟩ := o
  cases op
  case call c =>
    simp only [lightOp] at h
    split at h
    · (repeat' split at h) <;> cases h
    · rename_i x' hcal _
      cases h
      exact ⟨c, rfl, by assumption, rfl⟩
    · cases h
    · (repeat' split at h) <;> cases h
  all_goals (simp only [lightOp] at h <;> (repeat' split at h) <;> cases h)
theorem lightOp_invoke {P : Program} {o : Oper} {x : Operand} {name : String} {args : List Operand} (h : lightOp P o = some (.invoke x name args)) :
    ∃ c : Call, o.op = .call c ∧ c.callee = .invoke x name ∧ c.args.toList = args := by
  obtain ⟨dst, op, type, pos, after, guard⟩ := o
  cases op
  case call c =>
    simp only [lightOp] at h
    split at h
    · (repeat' split at h) <;> cases h
    · cases h
    · rename_i x' m hcal
      cases h
      exact ⟨c, rfl, hcal, rfl⟩
    · (repeat' split at h) <;> cases h
  all_goals (simp only [lightOp] at h <;> (repeat' split at h) <;> cases h)
theorem run_wrapNilChk {P : Program} {w : World} (ts : Array TypeId) (t : TypeId) (a : Addr) (s s' : ByteArray) : (Builtin.ssaWrapNilChk_ ts t #[.pointer (some a), .string s, .string s']).run P w = .ok (.pointer (some a)) w := rfl
/-- The machine's look-up of a method. -/
theorem method_run {P : Program} {H : Heap} {ρ : Nat → Nat × Nat} {w : World} (hR : Rep H ρ w) {ty : TypeId} {name : String} {f : FuncId} {mode : RMode} {u u' recv : Value} (hm : methodOf P ty name = some (f, mode)) (hrv : recvOf H mode u = some recv) (hu : r0i (H.cx ρ) u u') :
    ∃ recv', (method (P.types.size + Made.depth) ty u' name).run P w = .ok (f, recv') w ∧ r3 (H.cx ρ) recv recv' := by
  have hfuel : P.types.size + Made.depth = (P.types.size + 99) + 1 := rfl
  rw [hfuel]
  generalize P.types.size + 99 = fuel
  unfold methodOf at hm
  split at hm
  · rename_i i hi
    split at hm
    · rename_i m hmeth
      split at hm
      · rename_i hpath
        have hpl : m.path.toList = [] := by simpa using hpath
        split at hm
        · rename_i f' pr hfn
          split at hm
          · rename_i e hund
            split at hm
            · rename_i hpr
              cases hm
              cases hrv
              subst hpr
              refine ⟨u', ?_, r3_of_r0i hu⟩
              simp [method, typeInfo, hi, hmeth, hpl, follow, hfn, receiverAt, run_underlying hund, Place.get, Result.andThen]
            · rename_i hpr
              have hpr' : pr = false := by simpa using hpr
              subst hpr'
              split at hm
              · rename_i b n hag
                cases hm
                obtain ⟨d, ie, hd, hie, rfl, rfl, hpos⟩ := aggInfo_spec hag
                unfold recvOf at hrv
                simp only at hrv
                split at hrv
                · rename_i a
                  have hu3 : r3 (H.cx ρ) (.pointer (some a)) u' := r3_of_r0i hu
                  obtain ⟨recv', hrun, hr⟩ := load_same (P := P) hR hd hie hu3 hrv hpos
                  obtain ⟨hok, hu'⟩ := r3_ptr hu3
                  subst hu'
                  refine ⟨recv', ?_, hr⟩
                  have hlv : (loadVar e ((H.cx ρ).addr a)).run P w = .ok recv' w := by
                    have := hrun
                    simpa [Instr.loadAt, Instr.sureAddr] using this
                  have hemp : m.path = #[] := by simpa using hpath
                  simp [method, typeInfo, hi, hmeth, hpl, follow, hfn, receiverAt, run_underlying hund, Place.get, Result.andThen, hemp, strVal, run_wrapNilChk, asAddr, hlv, -String.toUTF8_eq_toByteArray, Sem.run_bind]
                · cases hrv
              · cases hm
          · rename_i d hnp hund
            split at hm
            · cases hm
            · rename_i hpr
              have hpr' : pr = false := by simpa using hpr
              subst hpr'
              cases hm
              cases hrv
              refine ⟨u', ?_, r3_of_r0i hu⟩
              cases d <;> first | exact absurd rfl (hnp _) | simp [method, typeInfo, hi, hmeth, hpl, follow, hfn, receiverAt, run_underlying hund, Place.get, Result.andThen]
          · cases hm
        · cases hm
      · cases hm
    · cases hm
  · cases hm
theorem do_sound {P : Program} {n : Nat} {ops : Array Oper} {o : Oper} {li : LIns} (hl : lightIns P n ops o = some li) {t : Tm} {H H' : Heap} {v : Value} (hd : Do P t H li.op v H')
    {ρ : Nat → Nat × Nat} {w : World} {a : Act} (hR : Rep H ρ w) (hn : a.tmps.size = n) (ht : TmR (H.cx ρ) t a.tmps) {K : Act → World → Prop} {Q : Exit → Act → World → Prop}
    (hK : ∀ ρ' v' w', Rep H' ρ' w' → (H.cx ρ).le (H'.cx ρ') → r3 (H'.cx ρ') v v' → K (a.put o.dst v') w') : o.wp P a w K Q := by
  obtain ⟨hlo, hops, _, _⟩ := lightIns_spec hl
  have hev : ∀ x ∈ li.op.ops, r3 (H.cx ρ) (ev t x) (a.eval x) := fun x hx => ht.ev (by rw [hn]; exact hops x hx)
  have plainStep : step H t li.op = some (v, H') → o.wp P a w K Q := by
    intro hs
    obtain ⟨ρ', nx, v', w', hrun, hnx, hr, hR', hle⟩ := sim_step hR hlo hev hs
    unfold Oper.wp
    rw [hrun]
    rcases hnx with rfl | ⟨rfl, rfl⟩
    · exact hK _ _ _ hR' hle hr
    · exact hK _ _ _ hR' hle hr
  generalize hop : li.op = op at *
  cases op <;> (try exact plainStep hd)
  case eqR neq xT x y =>
    obtain ⟨rfl, xs, ys, b, hx, hy, hpx, hpy, hrun, rfl⟩ := hd
    obtain ⟨yT, hop2, hg⟩ := lightOp_eqR hlo
    have h1 := hev x (by simp [LOp.ops])
    have h2 := hev y (by simp [LOp.ops])
    rw [hx] at h1
    rw [hy] at h2
    have e1 : a.eval x = .agg xs := r3_plain3_eq (by simpa [plain3, plain2] using hpx) h1
    have e2 : a.eval y = .agg ys := r3_plain3_eq (by simpa [plain3, plain2] using hpy) h2
    have hguard : ∀ op, (eqGuard op xT x y (.agg xs) (.agg ys)).run P w = .ok () w := fun op => run_eqGuard_agg w op xT x y xs ys hg
    have hr : (execOp a.eval o).run P w = .ok (.value (.bool (if neq then !b else b))) w := by
      unfold execOp
      simp only [hop2, e1, e2]
      cases neq
      · simp [hguard, binOp, hrun]
      · simp [hguard, binOp, hrun]
    unfold Oper.wp
    rw [hr]
    exact hK ρ _ w hR (Cx.le.refl _) rfl
  case call f args =>
    obtain ⟨hb, _, _, hT⟩ := hd
    obtain ⟨c, hc1, hc2, hc3, fn, hf, hfb, hfn⟩ := lightOp_call hlo
    have hargs : All2 (r3 (H.cx ρ)) (args.map (ev t)) (args.map a.eval) := All2.map_of fun x hx => hev x (by simpa [LOp.ops] using hx)
    have hcalls := hT ρ w _ hR hargs
    have hrun : (execOp a.eval o).run P w = .ok (.enter f (args.map a.eval).toArray) w := by
      unfold execOp
      simp only [hc1]
      have e1 : c.args.map a.eval = (args.map a.eval).toArray := by rw [← hc3]; apply Array.ext'; simp
      simp only [resolve, hc2, Act.eval, Deferred.ofValue, Sem.run_bind, Sem.run_pure, Result.andThen_ok, invoke]
      rw [callFunc_run hf hfb hfn]
      congr 2
      have e2 : (#[] : Array Value) ++ Array.map a.eval c.args ++ #[] = Array.map a.eval c.args := by simp
      exact e2.trans e1
    unfold Oper.wp
    rw [hrun]
    refine upon_enter_of (R := fun v' w' => ∃ ρ', Rep H' ρ' w' ∧ (H.cx ρ).le (H'.cx ρ') ∧ r3 (H'.cx ρ') v v') (hcalls.mono ?_) ?_
    · rintro e w' ⟨ρ', v', rfl, h1, h2, h3⟩
      exact ⟨v', rfl, ρ', h3, h1, h2⟩
    · rintro v' w' ⟨ρ', h1, h2, h3⟩
      exact hK ρ' v' w' h1 h2 h3
  case invoke x name args =>
    obtain ⟨ty, u, f, mode, recv, hx, hm, hrv, ⟨fn, hf, hfb, hfn⟩, hb, _, _, hT⟩ := hd
    obtain ⟨c, hc1, hc2, hc3⟩ := lightOp_invoke hlo
    have hxr := hev x (by simp [LOp.ops])
    rw [hx] at hxr
    obtain ⟨u', hxe, hu⟩ : ∃ u', a.eval x = .iface ty u' ∧ r0i (H.cx ρ) u u' := hxr
    obtain ⟨recv', hrun', hrr⟩ := method_run hR hm hrv hu
    have hargs : All2 (r3 (H.cx ρ)) (recv :: args.map (ev t)) (recv' :: args.map a.eval) := .cons hrr (All2.map_of fun y hy => hev y (by simp [LOp.ops, hy]))
    have hcalls := hT ρ w _ hR hargs
    have hrun : (execOp a.eval o).run P w = .ok (.enter f (recv' :: args.map a.eval).toArray) w := by
      unfold execOp
      simp only [hc1]
      have e1 : c.args.map a.eval = (args.map a.eval).toArray := by rw [← hc3]; apply Array.ext'; simp
      simp only [resolve, hc2, hxe, Sem.run_bind, Sem.run_pure, Result.andThen_ok, invoke, e1]
      simp only [show (#[Value.iface ty u'] ++ (List.map a.eval args).toArray)[0]? = some (Value.iface ty u') by simp, callMethod]
      simp only [Sem.run_bind, run_program, Result.andThen_ok, hrun', callFunc_run hf hfb hfn]
      congr 2
      simp [List.take_of_length_le]
    unfold Oper.wp
    rw [hrun]
    refine upon_enter_of (R := fun v' w' => ∃ ρ', Rep H' ρ' w' ∧ (H.cx ρ).le (H'.cx ρ') ∧ r3 (H'.cx ρ') v v') (hcalls.mono ?_) ?_
    · rintro e w' ⟨ρ', v', rfl, h1, h2, h3⟩
      exact ⟨v', rfl, ρ', h3, h1, h2⟩
    · rintro v' w' ⟨ρ', h1, h2, h3⟩
      exact hK ρ' v' w' h1 h2 h3
  case callv x args =>
    obtain ⟨f, first, captured, hx, ⟨fn, hf, hfb, hfn⟩, hb, _, _, hT⟩ := hd
    obtain ⟨c, hc1, hc2, hc3⟩ := lightOp_callv hlo
    have hxr := hev x (by simp [LOp.ops])
    rw [hx] at hxr
    obtain ⟨f', c', hxe, hf', hc'⟩ := hxr
    have hargs : All2 (r3 (H.cx ρ)) (first.toList ++ (args.map (ev t) ++ captured.toList)) (f'.toList ++ (args.map a.eval ++ c'.toList)) :=
      (hf'.imp fun _ _ h => r3_of_r1 (r1_of_r0 h)).append <| (All2.map_of fun x hx => hev x (by simp [LOp.ops]; exact .inr (by simpa using hx))).append (hc'.imp fun _ _ h => r3_of_r1 (r1_of_r0 h))
    have hcalls := hT ρ w _ hR hargs
    have hrun : (execOp a.eval o).run P w = .ok (.enter f (f'.toList ++ (args.map a.eval ++ c'.toList)).toArray) w := by
      unfold execOp
      simp only [hc1]
      have e1 : c.args.map a.eval = (args.map a.eval).toArray := by rw [← hc3]; apply Array.ext'; simp
      simp only [resolve, hc2, hxe, Deferred.ofValue, Sem.run_bind, Sem.run_pure, Result.andThen_ok, invoke]
      rw [callFunc_run hf hfb hfn]
      congr 2
      rw [e1]
      apply Array.ext'
      simp
    unfold Oper.wp
    rw [hrun]
    refine upon_enter_of (R := fun v' w' => ∃ ρ', Rep H' ρ' w' ∧ (H.cx ρ).le (H'.cx ρ') ∧ r3 (H'.cx ρ') v v') (hcalls.mono ?_) ?_
    · rintro e w' ⟨ρ', v', rfl, h1, h2, h3⟩
      exact ⟨v', rfl, ρ', h3, h1, h2⟩
    · rintro v' w' ⟨ρ', h1, h2, h3⟩
      exact hK ρ' v' w' h1 h2 h3

theorem undef_rel (c : Cx) : r3 c undef undef := ⟨#[], rfl, .nil⟩
/-- A list of operations, in the order of the text. -/
theorem wpO_sound {P : Program} {ds : List Deferred} {n : Nat} {ops : Array Oper} {c0 : Cx} {base0 : Base} {Q : Exit → Act → World → Prop} {Qa : Tm → Heap → Prop}
    (hQ : ∀ t H a w, St ds n c0 base0 t H a w → Qa t H → Q .normal a w) :
    ∀ (l : List Oper) (li : List LIns), All2 (fun o i => lightIns P n ops o = some i) l li → ∀ t H a w, St ds n c0 base0 t H a w → wpO P li Qa t H → wpList P ops Q l a w := by
  intro l li hl
  induction hl with
  | nil => intro t H a w hs h; exact hQ _ _ _ _ hs h
  | @cons o i rest rest' ho _ ih =>
    intro t H a w hs h
    obtain ⟨hdef, hsz, ρ, hR, hle, hb, ht⟩ := hs
    have hw := wanted_eq ho hsz ht
    have hdst := (lightIns_spec ho).2.2.2
    unfold wpList
    rw [hw]
    simp only [wpO] at h
    by_cases hg : wantedL i.guard t = true
    · rw [if_pos hg] at h ⊢
      obtain ⟨v, H', hd, hrest⟩ := h
      refine .inl (do_sound ho hd hR hsz ht (Q := Q) ?_)
      intro ρ' v' w' hR' hle' hr
      refine ih (put t i.dst v) H' _ w' ⟨by rw [put_defers']; exact hdef, by rw [put_size]; exact hsz, ρ', hR', hle.trans hle', by rw [do_base hd]; exact hb, ?_⟩ hrest
      rw [hdst]
      exact (ht.mono hle').put hr _
    · rw [if_neg hg] at h ⊢
      refine ih (put t i.dst undef) H _ w ⟨by rw [put_defers']; exact hdef, by rw [put_size]; exact hsz, ρ, hR, hle, hb, ?_⟩ h
      rw [hdst]
      exact ht.put (undef_rel _) _
end Go.Ot
