/-
  Part Zr: functions that defer a closure which recovers, and such closures.
-/
import Derived.Test.YtnomffikflfilaaGreatOtZn
import Derived.Recover
set_option linter.unusedVariables false
set_option linter.unusedSimpArgs false
namespace Go.Ot
open Go.RowKit

/-- How the caller stands at a deferred call: it returns, or it panics with a value. -/
def modeOf : Option Value → FrameMode
  | none => .returning
  | some x => .panicking [panE x]
/-- A deferred call from this heap, behind which the caller returns, whatever was. -/
def TD (P : Program) (f : FuncId) (args : List Value) (H : Heap) (m : Option Value) (Q : Heap → Prop) : Prop :=
  ∀ ρ w (args' : List Value), Rep H ρ w → All2 (r3 (H.cx ρ)) args args' →
    CallsD P f args'.toArray (modeOf m) w fun e u' w' => (∃ v, e = .returned v) ∧ settle u' = .returning ∧ ∃ H' ρ', Q H' ∧ H'.base = H.base ∧ (H.cx ρ).le (H'.cx ρ') ∧ Rep H' ρ' w'
def EndD0 (Q : Heap → Prop) : Post := fun e t H => (e = .normal ∨ e = .ret) ∧ Q H
theorem wanted_plain {o : Oper} (h : o.guard = none) (f : Nat → Option Bool) : Region.wanted o f = true := by
  unfold Region.wanted; rw [h]
theorem wpOpsS_rec {P : Program} {ops : Array Oper} {Q : Exit → Act → List Frame → World → Prop} {i : Nat} {rest : List Nat} {o : Oper} {a : Act} {cs : List Frame} {w : World} (ho : ops[i]? = some o) (hw : Region.wanted o (yielded ops a.tmps) = true) (hr : (execOp a.eval o).run P w = .ok .recover w)
    (h : match recoverD cs with
      | some (v, cs') => wpOpsS P ops Q rest (a.put o.dst v) cs' w
      | none => wpOpsS P ops Q rest (a.put o.dst .nilIface) cs w) : wpOpsS P ops Q (i :: rest) a cs w := by
  unfold wpOpsS
  simp only [ho, hw, if_true, hr]
  exact h
theorem wpOpsS_val {P : Program} {ops : Array Oper} {Q : Exit → Act → List Frame → World → Prop} {i : Nat} {rest : List Nat} {o : Oper} {a : Act} {cs : List Frame} {w : World} {v : Value} (ho : ops[i]? = some o) (hw : Region.wanted o (yielded ops a.tmps) = true) (hr : (execOp a.eval o).run P w = .ok (.value v) w)
    (h : wpOpsS P ops Q rest (a.put o.dst v) cs w) : wpOpsS P ops Q (i :: rest) a cs w := by
  unfold wpOpsS
  simp only [ho, hw, if_true, hr, Oper.upon_value]
  exact h
/-- A closure that begins with recover. -/
theorem TD_recover {P : Program} (hm : P.follows .mixedOrders = true) {f : FuncId} {n s1 s2 id : Nat} {lc : LCode} {args : List Value} {o1 o2 : Oper} {c : Call} {rest : Code} {fn : Func}
    (hf : P.funcs[f]? = some fn) (hb : fn.body = some (.seq (.region id #[o1, o2] false) rest)) (hn : fn.ntmps = n) (hres : fn.results = #[])
    (h1 : o1.op = .call c) (h1c : c.callee = .builtin .recover) (h1a : c.args = #[]) (h1d : o1.dst = some s1) (h1g : o1.guard = none) (h2 : o2.op = .assign (.tmp s1)) (h2d : o2.dst = some s2) (h2g : o2.guard = none)
    (hs1 : s1 < n) (hle : args.length ≤ n) (hc : lightCode P n rest = some lc) {H : Heap} {m : Option Value} (hmo : ∀ x, m = some x → panOk x = true) {Q : Heap → Prop}
    (h : wpN P lc (EndD0 Q) (put (put (initT args) (some s1) (m.getD .nilIface)) (some s2) (m.getD .nilIface)) (rdy H)) : TD P f args H m Q := by
  intro ρ w args' hR hargs
  refine callsD_of_wpS hf hb ?_
  intro c₀ cs hu
  obtain ⟨hsz, htm⟩ := init_tmps hargs hle
  rw [← hn] at hsz htm
  obtain ⟨a, ha⟩ : ∃ a : Act, a = { tmps := args'.toArray ++ Array.replicate (fn.ntmps - args'.toArray.size) undef, defers := [] } := ⟨_, rfl⟩
  rw [← ha]
  have had : a.defers = [] := by rw [ha]
  have has : a.tmps.size = n := by rw [ha, ← hn]; exact hsz
  have hat : TmR (H.cx ρ) (initT args) a.tmps := by rw [ha]; exact htm
  obtain ⟨v, hv⟩ : ∃ v, v = m.getD .nilIface := ⟨_, rfl⟩
  rw [← hv] at h
  have hvr : r3 (H.cx ρ) v v := by
    cases m with
    | none => rw [hv]; rfl
    | some x =>
      rw [hv]
      have := hmo x rfl
      refine plain3_self ?_
      cases x <;> first | exact this | cases this
  -- what recover says, and how the caller stands behind it
  have hrec : ∃ u', settle u' = .returning ∧ ∀ K : Act → List Frame → World → Prop, K (a.put (some s1) v) ({ c₀ with mode := u' } :: cs) w →
      (match recoverD (c₀ :: cs) with
        | some (v, cs') => K (a.put (some s1) v) cs' w
        | none => K (a.put (some s1) .nilIface) (c₀ :: cs) w) := by
    cases m with
    | none =>
      refine ⟨.returning, rfl, fun K hK => ?_⟩
      have e : recoverD (c₀ :: cs) = none := by simp [recoverD, hu, modeOf]
      have e2 : ({ c₀ with mode := .returning } : Frame) = c₀ := by
        have : c₀.mode = .returning := hu
        rw [← this]
      rw [e]
      rw [e2, hv] at hK
      exact hK
    | some x =>
      refine ⟨.panicking [{ v := x, recovered := true }], rfl, fun K hK => ?_⟩
      have e : recoverD (c₀ :: cs) = some (x, { c₀ with mode := .panicking [{ v := x, recovered := true }] } :: cs) := by simp [recoverD, hu, modeOf, panE]
      rw [e]
      rw [hv] at hK
      exact hK
  obtain ⟨u', hset, hK⟩ := hrec
  have run1 : (execOp a.eval o1).run P w = .ok .recover w := by
    unfold execOp
    simp only [h1, resolve, h1c, h1a]
    rfl
  refine wpS_seq (wpS_region ?_)
  show wpOpsS P #[o1, o2] _ [0, 1] a (c₀ :: cs) w
  refine wpOpsS_rec (o := o1) rfl (wanted_plain h1g _) run1 ?_
  rw [h1d]
  refine hK (fun a cs w => wpOpsS P #[o1, o2] _ [1] a cs w) ?_
  have e1 : (a.put (some s1) v).tmps.getD s1 undef = v := by simp [Act.put, Array.getD, has, hs1]
  have run2 : (execOp (a.put (some s1) v).eval o2).run P w = .ok (.value v) w := by
    unfold execOp
    simp only [h2, Act.eval, e1]
    rfl
  refine wpOpsS_val (o := o2) rfl (wanted_plain h2g _) run2 ?_
  rw [h2d]
  show Exit.thenS _ _ .normal _ _ _
  have hst : St [] n (H.cx ρ) H.base (put (put (initT args) (some s1) v) (some s2) v) H ((a.put (some s1) v).put (some s2) v) w :=
    ⟨by rw [put_defers', put_defers']; exact had, by rw [put_size, put_size]; exact has, ρ, hR, Cx.le.refl _, rfl, (hat.put hvr _).put hvr _⟩
  refine wpS_of_wp (wp_mono (wpN_sound hm hc hst h) ?_)
  rintro e a2 w2 ⟨t2, H2, ⟨hd2, _, ρ2, hR2, hle2, hb2, _⟩, he, hq⟩
  have hresults : (results fn a2.tmps).run P w2 = .ok (.tuple #[]) w2 := by
    rw [results_eq, hres, Array.mapM_eq_mapM_toList, Sem.run_bind, Sem.run_map]
    simp
  rcases he with rfl | rfl
  · exact ⟨hd2, u', rfl, _, hresults, ⟨_, rfl⟩, hset, H2, ρ2, hq, hb2, hle2, hR2⟩
  · exact ⟨hd2, u', rfl, _, hresults, ⟨_, rfl⟩, hset, H2, ρ2, hq, hb2, hle2, hR2⟩
/-! ### the function that defers -/
def spine : List Code → Code → Code
  | [], x => x
  | c :: cs, x => .seq c (spine cs x)
def wpPre (P : Program) : List LCode → (Tm → Heap → Prop) → Post → Tm → Heap → Prop
  | [], N, _ => N
  | lc :: r, N, Q => wpN P lc (thenA (wpPre P r N Q) Q)
/-- The end of a body ahead of the defer: a return, or a panic. -/
def EndE (Q : Out → Heap → Prop) (lr : List LRes) : Post := fun e t H => (e = .ret ∧ ∃ vs, resV t H lr = some vs ∧ Q (.ret (packV vs)) H) ∨ ∃ x, e = .panic [panE x] ∧ Q (.pan x) H
/-- The end of a body behind it: the deferred call is done, then the results are read. -/
def EndF (P : Program) (fd : FuncId) (caps : List Value) (Q : Out → Heap → Prop) (lr : List LRes) : Post := fun e t H =>
  ((e = .normal ∨ e = .ret) ∧ TD P fd caps H none (fun H' => ∃ vs, resV t H' lr = some vs ∧ Q (.ret (packV vs)) H')) ∨
  ∃ x, e = .panic [panE x] ∧ TD P fd caps H (some x) (fun H' => ∃ vs, resV t H' lr = some vs ∧ Q (.ret (packV vs)) H')
theorem wpPre_sound {P : Program} (hm : P.follows .mixedOrders = true) {n : Nat} {c0 : Cx} {base0 : Base} {last : Code} {Q : Exit → Act → World → Prop} {Qa : Post} {N : Tm → Heap → Prop}
    (hN : ∀ t H a w, St [] n c0 base0 t H a w → N t H → last.wp P Q a w) (hQ : ∀ e t H a w, e ≠ .normal → St [] n c0 base0 t H a w → Qa e t H → Q e a w) :
    ∀ (cs : List Code) (lcs : List LCode), All2 (fun c lc => lightCode P n c = some lc) cs lcs → ∀ t H a w, St [] n c0 base0 t H a w → wpPre P lcs N Qa t H → (spine cs last).wp P Q a w := by
  intro cs lcs hl
  induction hl with
  | nil => intro t H a w hs h; exact hN t H a w hs h
  | @cons c lc cs lcs hc _ ih =>
    intro t H a w hs h
    refine wp_seq (wp_mono (wpN_sound hm hc hs h) ?_)
    rintro e a' w' ⟨t', H', hs', hq⟩
    cases e <;> simp only [thenA, Exit.then] at hq ⊢
    · exact ih _ _ _ _ hs' hq
    all_goals exact hQ _ _ _ _ _ (by simp) hs' hq
theorem N_defer {P : Program} (hm : P.follows .mixedOrders = true) {f : FuncId} {n s id : Nat} {lr : List LRes} {args : List Value} {o1 o2 : Oper} {ty : Array TypeId} {fn : Func} {cs : List Code} {lcs : List LCode} {crest : Code} {rest : LCode} {fd : FuncId} {caps : List Operand}
    (hf : P.funcs[f]? = some fn) (hb : fn.body = some (spine cs (.seq (.region id #[o1, o2] false) crest))) (hn : fn.ntmps = n) (hres : lightRes P n fn.results.toList = some lr) (hle : args.length ≤ n)
    (hcs : All2 (fun c lc => lightCode P n c = some lc) cs lcs) (hrest : lightCode P n crest = some rest)
    (h1 : lightIns P n #[o1, o2] o1 = some ⟨some s, .func (.func fd) [] caps, none⟩) (h2 : o2.op = .defer { callee := .value (.tmp s), args := #[], argTypes := ty }) (h2d : o2.dst = none) (h2g : o2.guard = none) (hs : s < n)
    (hfd : ∃ fn, P.funcs[fd]? = some fn ∧ fn.body.isSome = true ∧ (fn.name == "runtime.NumGoroutine") = false)
    {H : Heap} {Q : Out → Heap → Prop}
    (h : wpPre P lcs (fun t H => (caps.map (ev t)).all isR0 = true ∧ wpN P rest (EndF P fd (caps.map (ev t)) Q lr) (put t (some s) (.func (.func fd) #[] (caps.map (ev t)).toArray)) (rdy H)) (EndE Q lr) (initT args) (rdy H)) : TN P f args H Q := by
  intro ρ w args' hR hargs
  refine calls_of_wp_defers hf hb ?_
  obtain ⟨hsz, htm⟩ := init_tmps hargs hle
  rw [← hn] at hsz htm
  have hst : St [] n (H.cx ρ) H.base (initT args) H { tmps := args'.toArray ++ Array.replicate (fn.ntmps - args'.toArray.size) undef, defers := [] } w :=
    ⟨rfl, by rw [← hn]; exact hsz, ρ, hR, Cx.le.refl _, rfl, htm⟩
  -- results, read behind all
  have res : ∀ (t : Tm) (H2 : Heap) (ρ2 : Nat → Nat × Nat) (a2 : Act) (w2 : World) (vs : List Value), a2.tmps.size = n → Rep H2 ρ2 w2 → TmR (H2.cx ρ2) t a2.tmps → resV t H2 lr = some vs → ∃ v', (results fn a2.tmps).run P w2 = .ok v' w2 ∧ r3 (H2.cx ρ2) (packV vs) v' := by
    intro t H2 ρ2 a2 w2 vs hsz2 hR2 ht2 hvs
    obtain ⟨vs', hrel, hrun⟩ := res_run (P := P) hR2 hsz2 ht2 hres hvs
    refine ⟨_, ?_, packV_rel hrel⟩
    rw [results_eq, Array.mapM_eq_mapM_toList, Sem.run_bind, Sem.run_map, hrun]
    rfl
  refine wpPre_sound hm (Qa := EndE Q lr) ?_ ?_ cs lcs hcs _ _ _ _ hst h
  · rintro t1 H1 a1 w1 hs1 ⟨hcap, hw⟩
    refine wp_seq (wp_region_list ?_)
    obtain ⟨hd1, hsz1, ρ1, hR1, hle1, hb1, ht1⟩ := hs1
    have hw1 := wanted_eq h1 hsz1 ht1
    show wpList P #[o1, o2] _ [o1, o2] a1 w1
    unfold wpList
    have hw1' : Region.wanted o1 (yielded #[o1, o2] a1.tmps) = true := hw1
    rw [if_pos hw1']
    refine .inl (do_sound h1 (t := t1) (H := H1) (H' := H1) (v := .func (.func fd) #[] (caps.map (ev t1)).toArray) ?_ hR1 hsz1 ht1 (Q := _) ?_)
    · show step H1 t1 (.func (.func fd) [] caps) = _
      simp only [step]
      rw [if_pos ⟨by simp, hcap⟩]
      rfl
    · intro ρ2 v2 w2 hR2 hle2 hr2
      obtain ⟨f2, c2, rfl, hf2, hc2⟩ := hr2
      have hf2' : f2 = #[] := by
        cases f2 with | mk l => cases hf2; rfl
      subst hf2'
      have hdst : o1.dst = some s := ((lightIns_spec h1).2.2.2).symm
      rw [hdst]
      unfold wpList
      rw [if_pos (wanted_plain h2g _)]
      refine .inl ?_
      have e1 : (a1.put (some s) (.func (.func fd) #[] c2)).tmps.getD s undef = .func (.func fd) #[] c2 := by simp [Act.put, Array.getD, hsz1, hs]
      have run2 : (execOp (a1.put (some s) (.func (.func fd) #[] c2)).eval o2).run P w2 = .ok (.defer { target := .fn (.func fd) c2, args := #[] }) w2 := by
        unfold execOp
        simp only [h2, resolve, Act.eval, e1, Deferred.ofValue, Sem.run_bind, Sem.run_pure, Result.andThen_ok]
        simp
      unfold Oper.wp
      rw [run2, Oper.upon_defer, h2d]
      show Exit.then _ _ .normal _ _
      have hst2 : St [{ target := .fn (.func fd) c2, args := #[] }] n (H1.cx ρ2) H1.base (put t1 (some s) (.func (.func fd) #[] (caps.map (ev t1)).toArray)) H1 { a1.put (some s) (.func (.func fd) #[] c2) with defers := { target := .fn (.func fd) c2, args := #[] } :: (a1.put (some s) (.func (.func fd) #[] c2)).defers } w2 := by
        refine ⟨?_, by show (a1.put _ _).tmps.size = n; rw [put_size]; exact hsz1, ρ2, hR2, Cx.le.refl _, rfl, ?_⟩
        · show _ :: (a1.put _ _).defers = _
          rw [put_defers', hd1]
        · exact (ht1.mono hle2).put (d := some s) (v := .func (.func fd) #[] (caps.map (ev t1)).toArray) (v' := .func (.func fd) #[] c2) ⟨#[], c2, rfl, hf2, hc2⟩
      have hpost := wpN_sound hm hrest hst2 hw
      refine wp_mono hpost ?_
      rintro e a3 w3 ⟨t3, H3, ⟨hd3, hsz3, ρ3, hR3, hle3, hb3, ht3⟩, he⟩
      obtain ⟨fnd, hfd1, hfd2, hfd3⟩ := hfd
      -- the captured values, as they stand in the last heap
      have hcaps : All2 (r3 (H3.cx ρ3)) (caps.map (ev t1)) c2.toList := by
        have : All2 (r3 (H3.cx ρ3)) (caps.map (ev t1)).toArray.toList c2.toList := hc2.imp fun _ _ h => r3_of_r1 (r1_of_r0 (r0_mono hle3 h))
        simpa using this
      have hinv : (invoke (.fn (.func fd) c2) #[]).run P w3 = .ok (.enter fd c2) w3 := by
        simp only [invoke]
        rw [callFunc_run hfd1 hfd2 hfd3]
        simp
      have fin : ∀ m (u : FrameMode), u = modeOf m → TD P fd (caps.map (ev t1)) H3 m (fun H' => ∃ vs, resV t3 H' lr = some vs ∧ Q (.ret (packV vs)) H') →
          Leaves P fn a3.tmps (fun e w' => ∃ o H' ρ', Q o H' ∧ endR (H'.cx ρ') o e ∧ H'.base = H.base ∧ (H.cx ρ).le (H'.cx ρ') ∧ Rep H' ρ' w') [{ target := .fn (.func fd) c2, args := #[] }] u w3 := by
        rintro m u rfl hTD
        refine leaves_cons (by cases m <;> simp [modeOf]) hinv ?_
        refine (hTD ρ3 w3 c2.toList hR3 hcaps).mono ?_
        rintro e u' w' ⟨⟨v, rfl⟩, hset, H4, ρ4, ⟨vs, hvs, hq⟩, hb4, hle4, hR4⟩
        obtain ⟨v', hrun, hrel⟩ := res t3 H4 ρ4 a3 w' vs hsz3 hR4 (ht3.mono hle4) hvs
        show Leaves P fn a3.tmps _ [] (settle u') w'
        rw [hset]
        exact ⟨v', hrun, _, H4, ρ4, hq, ⟨v', rfl, hrel⟩, hb4.trans (hb3.trans hb1), (hle1.trans hle2).trans (hle3.trans hle4), hR4⟩
      rcases he with ⟨he, hTD⟩ | ⟨x, rfl, hTD⟩
      · rcases he with rfl | rfl
        · show Leaves P fn a3.tmps _ a3.defers .returning w3
          rw [hd3]
          exact fin none _ rfl hTD
        · show Leaves P fn a3.tmps _ a3.defers .returning w3
          rw [hd3]
          exact fin none _ rfl hTD
      · show Leaves P fn a3.tmps _ a3.defers (.panicking _) w3
        rw [hd3]
        exact fin (some x) _ rfl hTD
  · rintro e t1 H1 a1 w1 hne ⟨hd1, hsz1, ρ1, hR1, hle1, hb1, ht1⟩ he
    rcases he with ⟨rfl, vs, hvs, hq⟩ | ⟨x, rfl, hq⟩
    · obtain ⟨v', hrun, hrel⟩ := res t1 H1 ρ1 a1 w1 vs hsz1 hR1 ht1 hvs
      show Leaves P fn a1.tmps _ a1.defers .returning w1
      rw [hd1]
      exact ⟨v', hrun, _, H1, ρ1, hq, ⟨v', rfl, hrel⟩, hb1, hle1, hR1⟩
    · show Leaves P fn a1.tmps _ a1.defers (.panicking _) w1
      rw [hd1]
      exact ⟨_, H1, ρ1, hq, rfl, hb1, hle1, hR1⟩
/-! ### in short -/
def DeferS (P : Program) (f : FuncId) (nargs n : Nat) (lcs : List LCode) (s : Nat) (fd : FuncId) (caps : List Operand) (rest : LCode) (lr : List LRes) : Prop :=
  ∃ (fn : Func) (cs : List Code) (id : Nat) (o1 o2 : Oper) (crest : Code) (ty : Array TypeId), P.funcs[f]? = some fn ∧ fn.body = some (spine cs (.seq (.region id #[o1, o2] false) crest)) ∧ fn.ntmps = n ∧ lightRes P n fn.results.toList = some lr ∧ nargs ≤ n ∧
    All2 (fun c lc => lightCode P n c = some lc) cs lcs ∧ lightCode P n crest = some rest ∧ lightIns P n #[o1, o2] o1 = some ⟨some s, .func (.func fd) [] caps, none⟩ ∧ o2.op = .defer { callee := .value (.tmp s), args := #[], argTypes := ty } ∧ o2.dst = none ∧ o2.guard = none ∧ s < n ∧
    ∃ fn, P.funcs[fd]? = some fn ∧ fn.body.isSome = true ∧ (fn.name == "runtime.NumGoroutine") = false
def RecS (P : Program) (f : FuncId) (nargs n s1 s2 : Nat) (lc : LCode) : Prop :=
  ∃ (fn : Func) (id : Nat) (o1 o2 : Oper) (c : Call) (rest : Code), P.funcs[f]? = some fn ∧ fn.body = some (.seq (.region id #[o1, o2] false) rest) ∧ fn.ntmps = n ∧ fn.results = #[] ∧ o1.op = .call c ∧ c.callee = .builtin .recover ∧ c.args = #[] ∧ o1.dst = some s1 ∧ o1.guard = none ∧ o2.op = .assign (.tmp s1) ∧ o2.dst = some s2 ∧ o2.guard = none ∧
    s1 < n ∧ nargs ≤ n ∧ lightCode P n rest = some lc
theorem TD_by {P : Program} (hm : P.follows .mixedOrders = true) {f : FuncId} {n s1 s2 : Nat} {lc : LCode} {args : List Value} (hS : RecS P f args.length n s1 s2 lc) {H : Heap} {m : Option Value} (hmo : ∀ x, m = some x → panOk x = true) {Q : Heap → Prop}
    (h : wpN P lc (EndD0 Q) (put (put (initT args) (some s1) (m.getD .nilIface)) (some s2) (m.getD .nilIface)) (rdy H)) : TD P f args H m Q := by
  obtain ⟨fn, id, o1, o2, c, rest, hf, hb, hn, hres, h1, h1c, h1a, h1d, h1g, h2, h2d, h2g, hs1, hle, hc⟩ := hS
  exact TD_recover hm hf hb hn hres h1 h1c h1a h1d h1g h2 h2d h2g hs1 hle hc hmo h
theorem N_def {P : Program} (hm : P.follows .mixedOrders = true) {f : FuncId} {n s : Nat} {lr : List LRes} {args : List Value} {lcs : List LCode} {rest : LCode} {fd : FuncId} {caps : List Operand} (hS : DeferS P f args.length n lcs s fd caps rest lr) {H : Heap} {Q : Out → Heap → Prop}
    (h : wpPre P lcs (fun t H => (caps.map (ev t)).all isR0 = true ∧ wpN P rest (EndF P fd (caps.map (ev t)) Q lr) (put t (some s) (.func (.func fd) #[] (caps.map (ev t)).toArray)) H) (EndE Q lr) (initT args) (rdy H)) : TN P f args H Q := by
  obtain ⟨fn, cs, id, o1, o2, crest, ty, hf, hb, hn, hres, hle, hcs, hrest, h1, h2, h2d, h2g, hs, hfd⟩ := hS
  exact N_defer hm hf hb hn hres hle hcs hrest h1 h2 h2d h2g hs hfd h
@[congr] theorem EndE_congr {Q : Out → Heap → Prop} {lr : List LRes} {e : Exit} {t t' : Tm} {H H' : Heap} (h : t = t') (h2 : H = H') : EndE Q lr e t H = EndE Q lr e t' H' := by rw [h, h2]
@[congr] theorem EndF_congr {P : Program} {fd : FuncId} {caps : List Value} {Q : Out → Heap → Prop} {lr : List LRes} {e : Exit} {t t' : Tm} {H H' : Heap} (h : t = t') (h2 : H = H') : EndF P fd caps Q lr e t H = EndF P fd caps Q lr e t' H' := by rw [h, h2]
@[congr] theorem EndD0_congr {Q : Heap → Prop} {e : Exit} {t t' : Tm} {H H' : Heap} (h : t = t') (h2 : H = H') : EndD0 Q e t H = EndD0 Q e t' H' := by rw [h, h2]
@[congr] theorem wpPre_congr {P : Program} {l : List LCode} {N : Tm → Heap → Prop} {Q : Post} {t t' : Tm} {H H' : Heap} (h : t = t') (h2 : H = H') : wpPre P l N Q t H = wpPre P l N Q t' H' := by rw [h, h2]
@[simp ↓] theorem wpPre_nil (P : Program) (N : Tm → Heap → Prop) (Q : Post) (t : Tm) (H : Heap) : wpPre P [] N Q t (rdy H) = N t (rdy H) := _root_.id rfl
@[simp ↓] theorem wpPre_cons (P : Program) (c : LCode) (l : List LCode) (N : Tm → Heap → Prop) (Q : Post) (t : Tm) (H : Heap) : wpPre P (c :: l) N Q t (rdy H) = wpN P c (thenA (wpPre P l N Q) Q) t (rdy H) := _root_.id rfl
@[simp ↓] theorem EndE_ret (Q : Out → Heap → Prop) (lr : List LRes) (t : Tm) (H : Heap) : EndE Q lr .ret t (rdy H) = goO (resV t H lr) (fun vs => Q (.ret (packV vs)) H) := by
  unfold EndE goO rdy
  cases h : resV t H lr <;> simp
@[simp ↓] theorem EndE_panic (Q : Out → Heap → Prop) (lr : List LRes) (x : Value) (t : Tm) (H : Heap) : EndE Q lr (.panic [panE x]) t (rdy H) = Q (.pan x) H := by
  unfold EndE rdy
  simp [panE]
/-- The deferred call, and what is read behind it. -/
def goD (P : Program) (fd : FuncId) (caps : List Value) (H : Heap) (m : Option Value) (t : Tm) (lr : List LRes) (Q : Out → Heap → Prop) : Prop := TD P fd caps H m (fun H' => ∃ vs, resV t H' lr = some vs ∧ Q (.ret (packV vs)) H')
theorem goD_of {P : Program} {fd : FuncId} {caps : List Value} {H : Heap} {m : Option Value} {t : Tm} {lr : List LRes} {Q : Out → Heap → Prop} {Q0 : Heap → Prop} (h : TD P fd caps H m Q0) (hk : ∀ H', Q0 H' → H'.WF → H'.base = H.base → H.next ≤ H'.next → ∃ vs, resV t H' lr = some vs ∧ Q (.ret (packV vs)) H') : goD P fd caps H m t lr Q := by
  intro ρ w args' hR ha
  refine (h ρ w args' hR ha).mono ?_
  rintro e u' w' ⟨h1, h2, H', ρ', h3, h4, h5, h6⟩
  exact ⟨h1, h2, H', ρ', hk H' h3 h6.wf h4 h5.n, h4, h5, h6⟩
@[simp ↓] theorem EndF_ret (P : Program) (fd : FuncId) (caps : List Value) (Q : Out → Heap → Prop) (lr : List LRes) (t : Tm) (H : Heap) : EndF P fd caps Q lr .ret t (rdy H) = goD P fd caps H none t lr Q := by
  unfold EndF goD rdy; simp
@[simp ↓] theorem EndF_normal (P : Program) (fd : FuncId) (caps : List Value) (Q : Out → Heap → Prop) (lr : List LRes) (t : Tm) (H : Heap) : EndF P fd caps Q lr .normal t (rdy H) = goD P fd caps H none t lr Q := by
  unfold EndF goD rdy; simp
@[simp ↓] theorem EndF_panic (P : Program) (fd : FuncId) (caps : List Value) (Q : Out → Heap → Prop) (lr : List LRes) (x : Value) (t : Tm) (H : Heap) : EndF P fd caps Q lr (.panic [panE x]) t (rdy H) = goD P fd caps H (some x) t lr Q := by
  unfold EndF goD rdy; simp [panE]
@[simp ↓] theorem EndD0_ret (Q : Heap → Prop) (t : Tm) (H : Heap) : EndD0 Q .ret t (rdy H) = Q H := by unfold EndD0 rdy; simp
@[simp ↓] theorem EndD0_normal (Q : Heap → Prop) (t : Tm) (H : Heap) : EndD0 Q .normal t (rdy H) = Q H := by unfold EndD0 rdy; simp
end Go.Ot
