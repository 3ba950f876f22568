/-
  Part Zn: contracts that say what may come of a call (more than one thing; a panic with a value in which no address stands), and code that is reckoned with them.
-/
import Derived.Test.YtfmcnojojknkfaaOtZa
set_option linter.unusedVariables false
set_option linter.unusedSimpArgs false
namespace Go.Ot
open Go.RowKit

inductive Out where
  | ret (v : Value)
  | pan (x : Value)
def panE (x : Value) : PanicEntry := { v := x, recovered := false }
def endR (c : Cx) : Out → Ending → Prop
  | .ret v, e => ∃ v', e = .returned v' ∧ r3 c v v'
  | .pan x, e => e = .panicked [panE x]
/-- A call from this heap comes to one of these ends. -/
def TN (P : Program) (f : FuncId) (args : List Value) (H : Heap) (Q : Out → Heap → Prop) : Prop :=
  ∀ ρ w (args' : List Value), Rep H ρ w → All2 (r3 (H.cx ρ)) args args' →
    Calls P f args'.toArray w fun e w' => ∃ o H' ρ', Q o H' ∧ endR (H'.cx ρ') o e ∧ H'.base = H.base ∧ (H.cx ρ).le (H'.cx ρ') ∧ Rep H' ρ' w'
theorem TN.mono {P : Program} {f : FuncId} {args : List Value} {H : Heap} {Q Q' : Out → Heap → Prop} (h : TN P f args H Q) (hq : ∀ o H', Q o H' → H'.WF → H'.base = H.base → H.next ≤ H'.next → Q' o H') : TN P f args H Q' := by
  intro ρ w args' hR ha
  refine (h ρ w args' hR ha).mono ?_
  rintro e w' ⟨o, H', ρ', h1, h2, h3, h4, h5⟩
  exact ⟨o, H', ρ', hq o H' h1 h5.wf h3 h4.n, h2, h3, h4, h5⟩
theorem TN.of {P : Program} {f : FuncId} {args : List Value} {H H' : Heap} {v : Value} (h : T P f args H v H') : TN P f args H (fun o H1 => o = .ret v ∧ H1 = H') := by
  intro ρ w args' hR ha
  refine (h.2.2.2 ρ w args' hR ha).mono ?_
  rintro e w' ⟨ρ', v', rfl, h1, h2, h3⟩
  exact ⟨.ret v, H', ρ', ⟨rfl, rfl⟩, ⟨v', rfl, h2⟩, h.1, h1, h3⟩
/-- What is forgotten: where what comes is plain and nothing old changes, the heap may stay as it was. -/
def plainO : Out → Bool | .ret v => plain3 v | .pan _ => true
theorem TN.forget {P : Program} {f : FuncId} {args : List Value} {H : Heap} {Q : Out → Heap → Prop} (h : TN P f args H Q) {Q' : Out → Prop} (hq : ∀ o H', Q o H' → plainO o = true ∧ (∀ b, b < H.next → H'.blk b = H.blk b) ∧ Q' o) : TN P f args H (fun o H' => H' = H ∧ Q' o) := by
  intro ρ w args' hR ha
  refine (h ρ w args' hR ha).mono ?_
  rintro e w' ⟨o, H', ρ', h1, h2, h3, h4, h5⟩
  obtain ⟨hp, hk, hq'⟩ := hq o H' h1
  refine ⟨o, H, ρ, ⟨rfl, hq'⟩, ?_, rfl, Cx.le.refl _, hR.back h5 h3 h4 hk⟩
  cases o with
  | ret v =>
    obtain ⟨v', rfl, hr⟩ := h2
    have e : v' = v := r3_plain3_eq hp hr
    subst e
    exact ⟨v', rfl, plain3_self hp⟩
  | pan x => exact h2
/-- A contract of one outcome alone is a contract. -/
theorem TN.one {P : Program} {f : FuncId} {args : List Value} {H H' : Heap} {v : Value} (hb : H'.base = H.base) (hn : H.next ≤ H'.next) (hw : H.WF → H'.WF) (h : TN P f args H (fun o H1 => o = .ret v ∧ H1 = H')) : T P f args H v H' := by
  refine ⟨hb, hn, hw, fun ρ w args' hR ha => (h ρ w args' hR ha).mono ?_⟩
  rintro e w' ⟨o, H1, ρ', ⟨rfl, rfl⟩, ⟨v', rfl, h2⟩, h3, h4, h5⟩
  exact ⟨ρ', v', rfl, h4, h2, h5⟩
/-- One plain end but for blocks that are forgotten. -/
theorem TN.kills {P : Program} {f : FuncId} {args : List Value} {H H' : Heap} {v : Value} (hb : H'.base = H.base) (hn : H.next ≤ H'.next) (hw : H.WF → H'.WF) (h : TN P f args H (fun o H1 => o = .ret v ∧ ∃ bs, H1.kills bs = H')) : T P f args H v H' := by
  refine ⟨hb, hn, hw, fun ρ w args' hR hargs => ?_⟩
  refine (h ρ w args' hR hargs).mono ?_
  rintro e w' ⟨o, H1, ρ', ⟨rfl, bs, rfl⟩, he, _, hle, hR'⟩
  obtain ⟨v', he', hr⟩ := he
  exact ⟨ρ', v', he', by rw [kills_cx]; exact hle, by rw [kills_cx]; exact hr, kills_rep bs hR'⟩
def outK (Kr : Value → Prop) (Kp : Value → Prop) : Out → Prop
  | .ret v => Kr v
  | .pan x => Kp x
/-- A panic with a value in which no address stands. -/
def panOk : Value → Bool
  | .iface t u => plain1 (.iface t u)
  | _ => false
/-- A region whose calls may panic, or may come to more than one end. -/
def wpON (P : Program) : List LIns → Post → Tm → Heap → Prop
  | [], Q, t, H => Q .normal t H
  | i :: rest, Q, t, H => if wantedL i.guard t then (match i.op with
      | .call f args => ∃ Q0, TN P f (args.map (ev t)) H Q0 ∧ ∀ o H', Q0 o H' → H'.WF → H'.base = H.base → H.next ≤ H'.next → outK (fun v => wpON P rest Q (put t i.dst v) H') (fun x => Q (.panic [panE x]) t H') o
      | .panic x => panOk (ev t x) = true ∧ Q (.panic [panE (ev t x)]) t H
      | .nextM x => nextK H (ev t x) fun v H' => wpON P rest Q (put t i.dst v) H'
      | op => ∃ v H', Do P t H op v H' ∧ wpON P rest Q (put t i.dst v) H')
    else wpON P rest Q (put t i.dst undef) H
def wpN (P : Program) : LCode → Post → Tm → Heap → Prop
  | .skip, Q => Q .normal
  | .region l, Q => wpON P l Q
  | .draw l, Q => fun t H => wpD P l [H] [] (Q .normal) t
  | .alts ls, Q => fun t H => ∀ l ∈ ls, wpD P l [H] [] (Q .normal) t
  | .tree d, Q => wpT P d (Q .normal)
  | .seq a b, Q => wpN P a (thenA (wpN P b Q) Q)
  | .cond c a b, Q => fun t H => match ev t c with | .bool true => wpN P a Q t H | .bool false => wpN P b Q t H | _ => False
  | .block id c, Q => wpN P c (blockA id Q)
  | .loop c, Q => fun t H => ∃ k, iterA (wpN P c) Q k t H
  | .exit id, Q => Q (.exit id)
  | .ret, Q => Q .ret
theorem wpON_mono {P : Program} {Q Q' : Post} (h : ∀ e t H, Q e t H → Q' e t H) : ∀ {l : List LIns} {t : Tm} {H : Heap}, wpON P l Q t H → wpON P l Q' t H
  | [], t, H, hq => h _ _ _ hq
  | i :: l, t, H, hq => by
    simp only [wpON] at hq ⊢
    split
    · rename_i hg; rw [if_pos hg] at hq
      split
      · rename_i f args ho
        rw [ho] at hq
        obtain ⟨Q0, h1, h2⟩ := hq
        refine ⟨Q0, h1, fun o H' q a b c => ?_⟩
        have := h2 o H' q a b c
        cases o with
        | ret v => exact wpON_mono h this
        | pan x => exact h _ _ _ this
      · rename_i x ho
        rw [ho] at hq
        exact ⟨hq.1, h _ _ _ hq.2⟩
      · rename_i x ho
        rw [ho] at hq
        exact nextK_mono hq (fun v H' hk => wpON_mono h hk)
      · rename_i op hno hno2 hno3
        have hq' : ∃ v H', Do P t H i.op v H' ∧ wpON P l Q (put t i.dst v) H' := by
          generalize i.op = op' at *
          cases op' <;> first | exact hq | exact absurd rfl (hno _ _) | exact absurd rfl (hno2 _) | exact absurd rfl (hno3 _)
        obtain ⟨v, H', h1, h2⟩ := hq'
        exact ⟨v, H', h1, wpON_mono h h2⟩
    · rename_i hg; rw [if_neg hg] at hq
      exact wpON_mono h hq
theorem wpN_mono {P : Program} {c : LCode} : ∀ {Q Q' : Post}, (∀ e t H, Q e t H → Q' e t H) → ∀ {t : Tm} {H : Heap}, wpN P c Q t H → wpN P c Q' t H := by
  induction c with
  | skip => intro Q Q' h t H hq; exact h _ _ _ hq
  | region l => intro Q Q' h t H hq; exact wpON_mono h hq
  | draw l => intro Q Q' h t H hq; exact wpD_mono (h .normal) hq
  | alts ls => intro Q Q' h t H hq l hl; exact wpD_mono (h .normal) (hq l hl)
  | tree d => intro Q Q' h t H hq; exact wpT_mono (h .normal) hq
  | seq a b iha ihb => intro Q Q' h t H hq; exact iha (thenA_mono (fun _ _ => ihb h) h) hq
  | cond x a b iha ihb =>
    intro Q Q' h t H hq
    simp only [wpN] at hq ⊢
    split <;> rename_i hx <;> simp only [hx] at hq
    · exact iha h hq
    · exact ihb h hq
  | block id c ih => intro Q Q' h t H hq; exact ih (blockA_mono h) hq
  | loop c ih =>
    intro Q Q' h t H hq
    obtain ⟨k, hk⟩ := hq
    refine ⟨k, ?_⟩
    induction k generalizing t H with
    | zero => exact hk.elim
    | succ k ihk => exact ih (thenA_mono (fun _ _ => ihk) h) hk
  | exit id => intro Q Q' h t H hq; exact h _ _ _ hq
  | ret => intro Q Q' h t H hq; exact h _ _ _ hq
theorem iterN_succ {P : Program} {c : LCode} {Q : Post} : ∀ {k : Nat} {t : Tm} {H : Heap}, iterA (wpN P c) Q k t H → iterA (wpN P c) Q (k + 1) t H
  | 0, _, _, h => h.elim
  | k + 1, _, _, h => wpN_mono (thenA_mono (fun _ _ => iterN_succ) (fun _ _ _ h => h)) h
theorem iterN_le {P : Program} {c : LCode} {Q : Post} {k : Nat} {t : Tm} {H : Heap} (h : iterA (wpN P c) Q k t H) : ∀ {m : Nat}, k ≤ m → iterA (wpN P c) Q m t H := by
  intro m hm
  induction hm with
  | refl => exact h
  | step _ ih => exact iterN_succ ih
theorem loop_ruleN {P : Program} {c : LCode} {Q : Post} (I : Nat → Tm → Heap → Prop) {n : Nat} {t : Tm} {H : Heap} (h0 : I n t H)
    (round : ∀ n t H, I n t H → wpN P c (thenA (fun t' H' => ∃ m, m < n ∧ I m t' H') Q) t H) : wpN P (.loop c) Q t H := by
  have key : ∀ n t H, I n t H → iterA (wpN P c) Q (n + 1) t H := by
    intro n
    induction n using Nat.strongRecOn with
    | _ n ih =>
      intro t H hI
      refine wpN_mono (thenA_mono ?_ (fun _ _ _ h => h)) (round n t H hI)
      rintro t' H' ⟨m, hm, hI'⟩
      exact iterN_le (ih m hm t' H' hI') hm
  exact ⟨n + 1, key n t H h0⟩

section
variable {P : Program} {ds : List Deferred} {n : Nat} {c0 : Cx} {base0 : Base}
theorem lightOp_panic {o : Oper} {x : Operand} (h : lightOp P o = some (.panic x)) : o.op = .panic x := by
  obtain ⟨dst, op, type, pos, after, guard⟩ := o
  cases op
  case panic y => cases h; rfl
  all_goals (simp only [lightOp] at h <;> (repeat' split at h) <;> cases h)
theorem lightOp_next {o : Oper} {x : Operand} (h : lightOp P o = some (.nextM x)) : o.op = .next x false := by
  obtain ⟨dst, op, type, pos, after, guard⟩ := o
  cases op
  case next y s => simp only [lightOp] at h; cases s <;> simp at h; subst h; rfl
  all_goals (simp only [lightOp] at h <;> (repeat' split at h) <;> cases h)
theorem wpON_sound {ops : Array Oper} {Qa : Post} :
    ∀ (l : List Oper) (li : List LIns), All2 (fun o i => lightIns P n ops o = some i) l li → ∀ t H a w, St ds n c0 base0 t H a w → wpON P li Qa t H → wpList P ops (lift ds n c0 base0 Qa) l a w := by
  intro l li hl
  induction hl with
  | nil => intro t H a w hs h; exact ⟨t, H, hs, h⟩
  | @cons o i rest rest' ho _ ih =>
    intro t H a w hs h
    obtain ⟨hdef, hsz, ρ, hR, hle, hb, ht⟩ := hs
    have hw := wanted_eq ho hsz ht
    obtain ⟨hlo, hops, _, hdst⟩ := lightIns_spec ho
    unfold wpList
    rw [hw]
    simp only [wpON] at h
    by_cases hg : wantedL i.guard t = true
    · rw [if_pos hg] at h ⊢
      refine .inl ?_
      have other : (∃ v H', Do P t H i.op v H' ∧ wpON P rest' Qa (put t i.dst v) H') → o.wp P a w (wpList P ops (lift ds n c0 base0 Qa) rest) (lift ds n c0 base0 Qa) := by
        rintro ⟨v, H', hd, hrest⟩
        refine do_sound ho hd hR hsz ht (Q := lift ds n c0 base0 Qa) ?_
        intro ρ' v' w' hR' hle' hr
        refine ih (put t i.dst v) H' _ w' ⟨by rw [put_defers']; exact hdef, by rw [put_size]; exact hsz, ρ', hR', hle.trans hle', by rw [do_base hd]; exact hb, ?_⟩ hrest
        rw [hdst]
        exact (ht.mono hle').put hr _
      split at h
      · rename_i f args hop
        rw [hop] at hlo hops
        obtain ⟨Q0, hT, hK⟩ := h
        have hev : ∀ x ∈ (LOp.call f args).ops, r3 (H.cx ρ) (ev t x) (a.eval x) := fun x hx => ht.ev (by rw [hsz]; exact hops x hx)
        obtain ⟨c, hc1, hc2, hc3, fn, hf, hfb, hfn⟩ := lightOp_call hlo
        have hargs : All2 (r3 (H.cx ρ)) (args.map (ev t)) (args.map a.eval) := All2.map_of fun x hx => hev x (by simpa [LOp.ops] using hx)
        have hcalls := hT ρ w _ hR hargs
        have hrun : (execOp a.eval o).run P w = .ok (.enter f (args.map a.eval).toArray) w := by
          unfold execOp
          simp only [hc1]
          have e1 : c.args.map a.eval = (args.map a.eval).toArray := by rw [← hc3]; apply Array.ext'; simp
          simp only [resolve, hc2, Act.eval, Deferred.ofValue, Sem.run_bind, Sem.run_pure, Result.andThen_ok, invoke]
          rw [callFunc_run hf hfb hfn]
          congr 2
          have e2 : (#[] : Array Value) ++ Array.map a.eval c.args ++ #[] = Array.map a.eval c.args := by simp
          exact e2.trans e1
        unfold Oper.wp
        rw [hrun, Oper.upon_enter]
        refine hcalls.mono ?_
        rintro e w' ⟨o', H', ρ', hq, he, hb', hle', hR'⟩
        have hk := hK o' H' hq hR'.wf hb' hle'.n
        cases o' with
        | ret v =>
          obtain ⟨v', rfl, hr⟩ := he
          refine ih (put t i.dst v) H' _ w' ⟨by rw [put_defers']; exact hdef, by rw [put_size]; exact hsz, ρ', hR', hle.trans hle', by rw [hb']; exact hb, ?_⟩ hk
          rw [hdst]
          exact (ht.mono hle').put hr _
        | pan x =>
          have he' : e = .panicked [panE x] := he
          subst he'
          exact ⟨t, H', ⟨hdef, hsz, ρ', hR', hle.trans hle', by rw [hb']; exact hb, ht.mono hle'⟩, hk⟩
      · rename_i x hop
        rw [hop] at hlo hops
        obtain ⟨hp, hK⟩ := h
        have hr := ht.ev (x := x) (by rw [hsz]; exact hops x (by simp [LOp.ops]))
        obtain ⟨ty, u, hxv⟩ : ∃ ty u, ev t x = .iface ty u := by
          cases he : ev t x <;> rw [he] at hp <;> first | exact ⟨_, _, rfl⟩ | cases hp
        rw [hxv] at hr hp hK
        have e : a.eval x = .iface ty u := r3_plain3_eq (show plain3 (.iface ty u) = true from hp) hr
        have hop' := lightOp_panic hlo
        have hrun : (execOp a.eval o).run P w = .halt (.panic (.iface ty u)) w := by
          unfold execOp
          simp only [hop', e]
          rfl
        unfold Oper.wp
        rw [hrun, Oper.upon_panic]
        exact ⟨t, H, ⟨hdef, hsz, ρ, hR, hle, hb, ht⟩, hK⟩
      · rename_i x hop
        rw [hop] at hlo hops
        have hr := ht.ev (x := x) (by rw [hsz]; exact hops x (by simp [LOp.ops]))
        obtain ⟨dstO, opO, typeO, posO, afterO, guardO⟩ := o
        have hop' := lightOp_next hlo
        simp only at hop'
        subst hop'
        obtain ⟨v, v', w', H', hrun, hr', hR', hb', hn', hk⟩ := next_sound (P := P) hR typeO hr h
        have hle' := le_same H ρ hb' (Nat.le_of_eq hn'.symm)
        have hrun' : (execOp a.eval ⟨dstO, .next x false, typeO, posO, afterO, guardO⟩).run P w = .ok (.value v') w' := by
          unfold execOp
          simp only [Sem.run_bind, hrun, Result.andThen_ok]
          rfl
        unfold Oper.wp
        rw [hrun', Oper.upon_value]
        refine ih (put t i.dst v) H' _ w' ⟨by rw [put_defers']; exact hdef, by rw [put_size]; exact hsz, ρ, hR', hle.trans hle', by rw [hb']; exact hb, ?_⟩ hk
        rw [hdst]
        exact (ht.mono hle').put hr' _
      · rename_i op hno hno2 hno3
        exact other (by
          generalize i.op = op' at *
          cases op' <;> first | exact h | exact absurd rfl (hno _ _) | exact absurd rfl (hno2 _) | exact absurd rfl (hno3 _))
    · rw [if_neg hg] at h ⊢
      refine ih (put t i.dst undef) H _ w ⟨by rw [put_defers']; exact hdef, by rw [put_size]; exact hsz, ρ, hR, hle, hb, ?_⟩ h
      rw [hdst]
      exact ht.put (undef_rel _) _
theorem region_soundN (hm : P.follows .mixedOrders = true) {id : Nat} {ops : Array Oper} {draw : Bool} {lc : LCode} (hl : lightCode P n (.region id ops draw) = some lc) {Qa : Post} {t : Tm} {H : Heap} {a : Act} {w : World}
    (hs : St ds n c0 base0 t H a w) (h : wpN P lc Qa t H) : (Code.region id ops draw).wp P (lift ds n c0 base0 Qa) a w := by
  have hl0 := hl
  unfold lightCode at hl
  split at hl
  · rename_i lis hlis
    have hall := lightList_all2 hlis
    split at hl
    · rename_i hdraw
      split at hl
      · rename_i hok
        cases hl
        exact region_sound hm hl0 hs h
      · cases hl
    · rename_i hdraw
      cases hl
      have : draw = false := by simpa using hdraw
      subst this
      exact wp_region_list (wpON_sound _ _ hall t H a w hs h)
  · cases hl
theorem wpN_sound (hm : P.follows .mixedOrders = true) : ∀ {c : Code} {lc : LCode} {Qa : Post} {t : Tm} {H : Heap} {a : Act} {w : World}, lightCode P n c = some lc → St ds n c0 base0 t H a w → wpN P lc Qa t H → c.wp P (lift ds n c0 base0 Qa) a w := by
  intro c
  induction c with
  | skip => intro lc Qa t H a w hl hs h; cases hl; exact wp_skip ⟨t, H, hs, h⟩
  | region id ops draw => intro lc Qa t H a w hl hs h; exact region_soundN hm hl hs h
  | seq x y ihx ihy =>
    intro lc Qa t H a w hl hs h
    unfold lightCode at hl
    split at hl
    · rename_i lx hx
      split at hl
      · rename_i ly hy
        cases hl
        refine wp_seq (wp_mono (ihx hx hs h) ?_)
        rintro e a' w' ⟨t', H', hs', hq⟩
        cases e <;> simp only [thenA, Exit.then] at hq ⊢
        · exact ihy hy hs' hq
        all_goals exact ⟨t', H', hs', hq⟩
      · cases hl
    · cases hl
  | cond c x y ihx ihy =>
    intro lc Qa t H a w hl hs h
    unfold lightCode at hl
    split at hl
    · rename_i hc
      split at hl
      · rename_i lx hx
        split at hl
        · rename_i ly hy
          cases hl
          simp only [wpN] at h
          obtain ⟨hdef, hsz, ρ, hR, hle, hb, ht⟩ := hs
          have hr := ht.ev (x := c) (by rw [hsz]; exact hc)
          have hs' : St ds n c0 base0 t H a w := ⟨hdef, hsz, ρ, hR, hle, hb, ht⟩
          split at h
          · rename_i hv
            exact wp_cond_true ((r3_bool_iff hr true).2 hv) (ihx hx hs' h)
          · rename_i hv
            exact wp_cond_false ((r3_bool_iff hr false).2 hv) (ihy hy hs' h)
          · exact h.elim
        · cases hl
      · cases hl
    · cases hl
  | block id c ih =>
    intro lc Qa t H a w hl hs h
    unfold lightCode at hl
    split at hl
    · rename_i lx hx
      cases hl
      refine wp_block (wp_mono (ih hx hs h) ?_)
      rintro e a' w' ⟨t', H', hs', hq⟩
      cases e with
      | exit id' =>
        simp only [blockA, Exit.inBlock] at hq ⊢
        split
        · rename_i he; rw [if_pos he] at hq; exact ⟨t', H', hs', hq⟩
        · rename_i he; rw [if_neg he] at hq; exact ⟨t', H', hs', hq⟩
      | _ => exact ⟨t', H', hs', hq⟩
    · cases hl
  | loop c ih =>
    intro lc Qa t H a w hl hs h
    unfold lightCode at hl
    split at hl
    · rename_i lx hx
      cases hl
      obtain ⟨k, hk⟩ := h
      refine wp_loop_at (fun k a w => ∃ t H, St ds n c0 base0 t H a w ∧ iterA (wpN P lx) Qa k t H) (n := k) ⟨t, H, hs, hk⟩ ?_
      rintro k a w ⟨t, H, hs, hk⟩
      cases k with
      | zero => exact hk.elim
      | succ k =>
        refine wp_mono (ih hx hs hk) ?_
        rintro e a' w' ⟨t', H', hs', hq⟩
        cases e <;> simp only [thenA, Exit.then] at hq ⊢
        · exact ⟨k, Nat.lt_succ_self k, t', H', hs', hq⟩
        all_goals exact ⟨t', H', hs', hq⟩
    · cases hl
  | exit id => intro lc Qa t H a w hl hs h; cases hl; exact wp_exit ⟨t, H, hs, h⟩
  | ret => intro lc Qa t H a w hl hs h; cases hl; exact wp_ret ⟨t, H, hs, h⟩
  | rangeFunc _ _ _ _ _ _ => intro lc Qa t H a w hl; cases hl
  | scope _ _ => intro lc Qa t H a w hl; cases hl
  | label _ => intro lc Qa t H a w hl; cases hl
  | goto _ => intro lc Qa t H a w hl; cases hl
  | refuse _ => intro lc Qa t H a w hl; cases hl
theorem init_tmps {args args' : List Value} {n : Nat} {c : Cx} (hargs : All2 (r3 c) args args') (hle : args.length ≤ n) : (args'.toArray ++ Array.replicate (n - args'.toArray.size) undef).size = n ∧ TmR c (initT args) (args'.toArray ++ Array.replicate (n - args'.toArray.size) undef) := by
  have hal := hargs.length
  refine ⟨by simp; omega, ?_⟩
  intro i hi
  unfold initT
  by_cases hlt : i < args.length
  · have hlt' : i < args'.length := by omega
    have h1 : args.getD i undef = args[i] := by simp [List.getD, hlt]
    have h2 : (args'.toArray ++ Array.replicate (n - args'.toArray.size) undef).getD i undef = args'[i] := by
      simp only [Array.getD, hi, dif_pos]
      rw [Array.getInternal_eq_getElem, Array.getElem_append_left (by simpa using hlt')]
      simp
    rw [h1, h2]
    exact hargs.getBoth (List.getElem?_eq_getElem hlt) (List.getElem?_eq_getElem hlt')
  · have h1 : args.getD i undef = undef := by simp [List.getD, List.getElem?_eq_none (show args.length ≤ i by omega)]
    have h2 : (args'.toArray ++ Array.replicate (n - args'.toArray.size) undef).getD i undef = undef := by
      simp only [Array.getD, hi, dif_pos]
      rw [Array.getInternal_eq_getElem, Array.getElem_append_right (by simp; omega)]
      simp
    rw [h1, h2]
    exact undef_rel _
end
/-- How a body may end. -/
def EndN (Q : Out → Heap → Prop) (lr : List LRes) : Post := fun e t H => ((e = .normal ∨ e = .ret) ∧ ∃ vs, resV t H lr = some vs ∧ Q (.ret (packV vs)) H) ∨ ∃ x, e = .panic [panE x] ∧ Q (.pan x) H
/-- A contract out of a body. -/
theorem N_by {P : Program} (hm : P.follows .mixedOrders = true) {f : FuncId} {n : Nat} {lc : LCode} {lr : List LRes} {args : List Value} (hL : Light P f args.length n lc lr) {H : Heap} {Q : Out → Heap → Prop}
    (h : wpN P lc (EndN Q lr) (initT args) (rdy H)) : TN P f args H Q := by
  intro ρ w args' hR hargs
  obtain ⟨fn, c, hf, hb, hn, hc, hres, hle⟩ := hL
  refine calls_of_wp hf hb ?_
  obtain ⟨hsz, htm⟩ := init_tmps hargs hle
  rw [← hn] at hsz htm
  have hst : St [] n (H.cx ρ) H.base (initT args) H { tmps := args'.toArray ++ Array.replicate (fn.ntmps - args'.toArray.size) undef, defers := [] } w :=
    ⟨rfl, by rw [← hn]; exact hsz, ρ, hR, Cx.le.refl _, rfl, htm⟩
  refine wp_mono (wpN_sound hm hc hst h) ?_
  rintro e a w' ⟨t, H', ⟨hdef, hsz', ρ', hR', hle', hb', ht'⟩, he⟩
  rcases he with ⟨he, vs, hvs, hQ⟩ | ⟨x, rfl, hQ⟩
  · obtain ⟨vs', hrel, hrun⟩ := res_run hR' hsz' ht' hres hvs
    have hresults : (results fn a.tmps).run P w' = .ok (if h : vs'.toArray.size = 1 then vs'.toArray[0] else .tuple vs'.toArray) w' := by
      rw [results_eq, Array.mapM_eq_mapM_toList, Sem.run_bind, Sem.run_map, hrun]
      rfl
    rcases he with rfl | rfl
    · exact ⟨hdef, _, hresults, _, H', ρ', hQ, ⟨_, rfl, packV_rel hrel⟩, hb', hle', hR'⟩
    · exact ⟨hdef, _, hresults, _, H', ρ', hQ, ⟨_, rfl, packV_rel hrel⟩, hb', hle', hR'⟩
  · exact ⟨hdef, _, H', ρ', hQ, rfl, hb', hle', hR'⟩
/-! ### rules of rewriting -/
@[congr] theorem wpN_congr {P : Program} {l : LCode} {Q : Post} {t t' : Tm} {H H' : Heap} (h : t = t') (h2 : H = H') : wpN P l Q t H = wpN P l Q t' H' := by rw [h, h2]
@[congr] theorem wpON_congr {P : Program} {l : List LIns} {Q : Post} {t t' : Tm} {H H' : Heap} (h : t = t') (h2 : H = H') : wpON P l Q t H = wpON P l Q t' H' := by rw [h, h2]
@[congr] theorem EndN_congr {Q : Out → Heap → Prop} {lr : List LRes} {e : Exit} {t t' : Tm} {H H' : Heap} (h : t = t') (h2 : H = H') : EndN Q lr e t H = EndN Q lr e t' H' := by rw [h, h2]
@[congr] theorem outK_congr {Kr Kp : Value → Prop} {o o' : Out} (h : o = o') : outK Kr Kp o = outK Kr Kp o' := by rw [h]
@[simp ↓] theorem outK_ret (Kr Kp : Value → Prop) (v : Value) : outK Kr Kp (.ret v) = Kr v := _root_.id rfl
@[simp ↓] theorem outK_pan (Kr Kp : Value → Prop) (x : Value) : outK Kr Kp (.pan x) = Kp x := _root_.id rfl
def goN (P : Program) (f : FuncId) (args : List Value) (H : Heap) (K : Out → Heap → Prop) : Prop := ∃ Q0, TN P f args H Q0 ∧ ∀ o H', Q0 o H' → H'.WF → H'.base = H.base → H.next ≤ H'.next → K o H'
@[congr] theorem goN_congr {P : Program} {f : FuncId} {args args' : List Value} {H H' : Heap} {K : Out → Heap → Prop} (h : args = args') (h2 : H = H') : goN P f args H K = goN P f args' H' K := by rw [h, h2]
theorem goN_of {P : Program} {f : FuncId} {args : List Value} {H : Heap} {Q0 : Out → Heap → Prop} {K : Out → Heap → Prop} (h : TN P f args H Q0) (hk : ∀ o H', Q0 o H' → H'.WF → H'.base = H.base → H.next ≤ H'.next → K o (rdy H')) : goN P f args H K := ⟨Q0, h, hk⟩
theorem goN_T {P : Program} {f : FuncId} {args : List Value} {H H' : Heap} {v : Value} {K : Out → Heap → Prop} (h : T P f args H v H') (hk : K (.ret v) (rdy H')) : goN P f args H K :=
  ⟨_, TN.of h, by rintro o H1 ⟨rfl, rfl⟩ _ _ _; exact hk⟩
@[simp ↓] theorem wpON_nil' (P : Program) (Q : Post) (t : Tm) (H : Heap) : wpON P [] Q t (rdy H) = Q .normal t (rdy H) := _root_.id rfl
@[simp ↓] theorem wpON_cons (P : Program) (d : Option Nat) (op : LOp) (rest : List LIns) (Q : Post) (t : Tm) (H : Heap) (h : ∀ f args, op ≠ .call f args) (h2 : ∀ x, op ≠ .panic x) (h3 : ∀ x, op ≠ .nextM x) :
    wpON P (⟨d, op, none⟩ :: rest) Q t (rdy H) = wpI P op t H (fun v H' => wpON P rest Q (put t d v) (rdy H')) := by
  simp only [wpON, wantedL, if_true, wpI, rdy]
@[simp ↓ high] theorem wpON_call' (P : Program) (d : Option Nat) (f : FuncId) (args : List Operand) (rest : List LIns) (Q : Post) (t : Tm) (H : Heap) :
    wpON P (⟨d, .call f args, none⟩ :: rest) Q t (rdy H) = goN P f (args.map (ev t)) H (fun o H' => outK (fun v => wpON P rest Q (put t d v) H') (fun x => Q (.panic [panE x]) t H') o) := _root_.id rfl
@[congr] theorem nextK_congr {x x' : Value} {H : Heap} {K : Value → Heap → Prop} (h : x = x') : nextK H x K = nextK H x' K := by rw [h]
@[simp ↓ high] theorem wpON_next' (P : Program) (d : Option Nat) (x : Operand) (rest : List LIns) (Q : Post) (t : Tm) (H : Heap) :
    wpON P (⟨d, .nextM x, none⟩ :: rest) Q t (rdy H) = nextK H (ev t x) (fun v H' => wpON P rest Q (put t d v) H') := _root_.id rfl
theorem nextM_of {H : Heap} {b m c since last : Nat} {seen : List Nat} {es : List MEnt} {K : Value → Heap → Prop} (iAt : H.iterAt b = some ⟨some m, since, seen, last⟩) (mAt : H.mapAt m = some (c, es))
    (ok : Itr.ok ⟨some m, since, seen, last⟩ es = true) (over : Itr.old ⟨some m, since, seen, last⟩ es = [] → K (.tuple #[.bool false]) (rdy H))
    (more : ∀ e ∈ Itr.left ⟨some m, since, seen, last⟩ es, K (.tuple #[.bool true, e.key, e.val]) (rdy (H.put b (icells (some m) since (seen ++ [e.born]) c)))) : nextK H (.pointer (some ⟨b, 0, none⟩)) K :=
  ⟨rfl, rfl, ⟨some m, since, seen, last⟩, iAt, (c, es), mAt, ok, over, more⟩
def goPan (v : Value) (K : Prop) : Prop := panOk v = true ∧ K
@[congr] theorem goPan_congr {v v' : Value} {K : Prop} (h : v = v') : goPan v K = goPan v' K := by rw [h]
@[simp] theorem goPan_iface (t : TypeId) (u : Value) (K : Prop) : goPan (.iface t u) K = (plain1 (.iface t u) = true ∧ K) := _root_.id rfl
@[simp ↓ high] theorem wpON_panic' (P : Program) (d : Option Nat) (x : Operand) (rest : List LIns) (Q : Post) (t : Tm) (H : Heap) :
    wpON P (⟨d, .panic x, none⟩ :: rest) Q t (rdy H) = goPan (ev t x) (Q (.panic [panE (ev t x)]) t (rdy H)) := _root_.id rfl
@[simp ↓ high] theorem wpON_callv' (P : Program) (d : Option Nat) (x : Operand) (args : List Operand) (rest : List LIns) (Q : Post) (t : Tm) (H : Heap) :
    wpON P (⟨d, .callv x args, none⟩ :: rest) Q t (rdy H) = goTV P (ev t x) (args.map (ev t)) H (fun v H' => wpON P rest Q (put t d v) H') := _root_.id rfl
@[simp ↓ high] theorem wpON_invoke' (P : Program) (d : Option Nat) (x : Operand) (name : String) (args : List Operand) (rest : List LIns) (Q : Post) (t : Tm) (H : Heap) :
    wpON P (⟨d, .invoke x name args, none⟩ :: rest) Q t (rdy H) = goTI P (ev t x) name (args.map (ev t)) H (fun v H' => wpON P rest Q (put t d v) H') := _root_.id rfl
@[simp ↓ high] theorem wpON_eqR' (P : Program) (d : Option Nat) (neq : Bool) (xT : TypeId) (x y : Operand) (rest : List LIns) (Q : Post) (t : Tm) (H : Heap) :
    wpON P (⟨d, .eqR neq xT x y, none⟩ :: rest) Q t (rdy H) = goE P neq xT (ev t x) (ev t y) H (fun v H' => wpON P rest Q (put t d v) H') := by
  rw [← wpI_eqR0]; simp only [wpON, wantedL, if_true, wpI, rdy]
@[simp ↓] theorem wpON_guard (P : Program) (d : Option Nat) (op : LOp) (g : Nat × Bool) (rest : List LIns) (Q : Post) (t : Tm) (H : Heap) :
    wpON P (⟨d, op, some g⟩ :: rest) Q t (rdy H) = goB (wantedL (some g) t) (wpON P (⟨d, op, none⟩ :: rest) Q t (rdy H)) (wpON P rest Q (put t d undef) (rdy H)) := by
  rw [← goB_ite]; simp only [wpON, wantedL, if_true, rdy]; rfl
@[simp ↓] theorem wpN_skip (P : Program) (Q : Post) (t : Tm) (H : Heap) : wpN P .skip Q t (rdy H) = Q .normal t (rdy H) := _root_.id rfl
@[simp ↓] theorem wpN_region (P : Program) (l : List LIns) (Q : Post) (t : Tm) (H : Heap) : wpN P (.region l) Q t (rdy H) = wpON P l Q t (rdy H) := _root_.id rfl
@[simp ↓] theorem wpN_draw (P : Program) (l : List DIns) (Q : Post) (t : Tm) (H : Heap) : wpN P (.draw l) Q t (rdy H) = wpD P l [rdy H] [] (Q .normal) t := _root_.id rfl
@[simp ↓] theorem wpN_seq (P : Program) (a b : LCode) (Q : Post) (t : Tm) (H : Heap) : wpN P (.seq a b) Q t (rdy H) = wpN P a (thenA (wpN P b Q) Q) t (rdy H) := _root_.id rfl
@[simp ↓] theorem wpN_block (P : Program) (id : Nat) (c : LCode) (Q : Post) (t : Tm) (H : Heap) : wpN P (.block id c) Q t (rdy H) = wpN P c (blockA id Q) t (rdy H) := _root_.id rfl
@[simp ↓] theorem wpN_exit (P : Program) (id : Nat) (Q : Post) (t : Tm) (H : Heap) : wpN P (.exit id) Q t (rdy H) = Q (.exit id) t (rdy H) := _root_.id rfl
@[simp ↓] theorem wpN_ret (P : Program) (Q : Post) (t : Tm) (H : Heap) : wpN P .ret Q t (rdy H) = Q .ret t (rdy H) := _root_.id rfl
@[simp ↓] theorem wpN_cond (P : Program) (c : Operand) (a b : LCode) (Q : Post) (t : Tm) (H : Heap) : wpN P (.cond c a b) Q t (rdy H) = goC (ev t c) (wpN P a Q t (rdy H)) (wpN P b Q t (rdy H)) := by
  simp only [wpN, goC]
  cases ev t c <;> first | rfl | (rename_i q; cases q <;> rfl)
@[simp ↓] theorem thenA_panic (N : Tm → Heap → Prop) (Q : Post) (ch : List PanicEntry) (t : Tm) (H : Heap) : thenA N Q (.panic ch) t H = Q (.panic ch) t H := _root_.id rfl
@[simp ↓] theorem blockA_panic (id : Nat) (Q : Post) (ch : List PanicEntry) (t : Tm) (H : Heap) : blockA id Q (.panic ch) t H = Q (.panic ch) t H := _root_.id rfl
@[simp ↓] theorem EndN_ret (Q : Out → Heap → Prop) (lr : List LRes) (t : Tm) (H : Heap) : EndN Q lr .ret t (rdy H) = goO (resV t H lr) (fun vs => Q (.ret (packV vs)) H) := by
  unfold EndN goO rdy
  cases h : resV t H lr <;> simp
@[simp ↓] theorem EndN_normal (Q : Out → Heap → Prop) (lr : List LRes) (t : Tm) (H : Heap) : EndN Q lr .normal t (rdy H) = goO (resV t H lr) (fun vs => Q (.ret (packV vs)) H) := by
  unfold EndN goO rdy
  cases h : resV t H lr <;> simp
@[simp ↓] theorem EndN_panic (Q : Out → Heap → Prop) (lr : List LRes) (x : Value) (t : Tm) (H : Heap) : EndN Q lr (.panic [panE x]) t (rdy H) = Q (.pan x) H := by
  unfold EndN rdy
  simp [panE]
theorem loopN_at {P : Program} {c : LCode} {Q : Post} (I : Nat → Tm → Heap → Prop) (n : Nat) {t : Tm} {H : Heap} (h0 : I n t H)
    (round : ∀ n t H, I n t H → wpN P c (thenA (fun t' H' => ∃ m, m < n ∧ I m t' H') Q) t (rdy H)) : wpN P (.loop c) Q t (rdy H) := loop_ruleN I h0 round
end Go.Ot
