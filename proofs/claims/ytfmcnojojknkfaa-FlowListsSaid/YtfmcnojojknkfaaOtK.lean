/-
  Part K: a light operation does what the machine's does.
-/
import Derived.Test.YtfmcnojojknkfaaOtJ
set_option linter.unusedVariables false
set_option linter.unusedSimpArgs false
namespace Go.Ot
open Go.RowKit

def LOp.ops : LOp → List Operand
  | .move x => [x]
  | .pick c a b => [c, a, b]
  | .new _ _ _ => []
  | .box _ _ x => [x]
  | .build _ ps => ps.map (·.2.2)
  | .buildSlice _ _ _ _ ps => ps.map (·.2.2)
  | .load _ _ x => [x]
  | .store _ a x => [a, x]
  | .nilCheck x => [x]
  | .bin _ x y => [x, y]
  | .isNil _ _ x => [x]
  | .eqB _ x y => [x, y]
  | .un _ x => [x]
  | .conv _ x => [x]
  | .same x => [x]
  | .toStr x => [x]
  | .toBytes _ x => [x]
  | .mark x => [x]
  | .arr _ x => [x]
  | .iface _ x => [x]
  | .panic x => [x]
  | .func _ f c => f ++ c
  | .make _ _ _ _ l c => [l, c]
  | .slice _ x lo hi mx => x :: (lo.toList ++ hi.toList ++ mx.toList)
  | .sliceArr _ _ x lo hi mx => x :: (lo.toList ++ hi.toList ++ mx.toList)
  | .sliceStr x lo hi => x :: (lo.toList ++ hi.toList)
  | .off _ x => [x]
  | .fld _ _ _ x => [x]
  | .idx _ x i => [x, i]
  | .idxArr _ _ x i => [x, i]
  | .idxStr x i => [x, i]
  | .idxAgg _ _ _ x i => [x, i]
  | .extract x _ => [x]
  | .append _ _ _ x y => [x, y]
  | .copy _ x y => [x, y]
  | .lenS x => [x]
  | .len x => [x]
  | .lenK _ => []
  | .minmax _ x rest => x :: rest
  | .eqR _ _ x y => [x, y]
  | .makeMap => []
  | .lookup _ _ _ x i => [x, i]
  | .mapUpdate _ x k v => [x, k, v]
  | .mapEntry _ _ x k => [x, k]
  | .entryStore x s v => [x, s, v]
  | .delete _ x k => [x, k]
  | .lenM x => [x]
  | .rangeM x => [x]
  | .nextM x => [x]
  | .entryM x => [x]
  | .clear _ _ x => [x]
  | .assert _ _ _ x => [x]
  | .invoke x _ args => x :: args
  | .call _ args => args
  | .callv x args => x :: args

def StpN (P : Program) (H : Heap) (ρ : Nat → Nat × Nat) (w : World) (s : Sem Next) (v : Value) (H' : Heap) : Prop :=
  ∃ ρ' nx v' w', s.run P w = .ok nx w' ∧ (nx = .value v' ∨ (nx = .skip ∧ v' = undef)) ∧ r3 (H'.cx ρ') v v' ∧ Rep H' ρ' w' ∧ (H.cx ρ).le (H'.cx ρ')
theorem StpN.of {P : Program} {H H' : Heap} {ρ : Nat → Nat × Nat} {w : World} {s : Sem Value} {v : Value} (h : Stp P H ρ w s v H') : StpN P H ρ w (do pure (.value (← s))) v H' := by
  obtain ⟨ρ', v', w', hrun, h⟩ := h
  exact ⟨ρ', .value v', v', w', by simp [hrun], .inl rfl, h⟩
theorem StpN.pure {P : Program} {H : Heap} {ρ : Nat → Nat × Nat} {w : World} (hR : Rep H ρ w) {v v' : Value} (h : r3 (H.cx ρ) v v') : StpN P H ρ w (Pure.pure (.value v')) v H :=
  ⟨ρ, .value v', v', w, rfl, .inl rfl, h, hR, Cx.le.refl _⟩
theorem relO_map {c : Cx} {t : Tm} {e : Operand → Value} {x : Option Operand} (h : ∀ y ∈ x.toList, r3 c (ev t y) (e y)) : relO c (x.map (ev t)) (x.map e) := by
  cases x with
  | none => trivial
  | some x => exact h x (by simp)
theorem parts_rel {c : Cx} {t : Tm} {e : Operand → Value} {pl : Nat → Option (Nat × Nat)} : ∀ {ps : List (Nat × Operand)} {qs : List (Nat × Nat × Operand)}, partsOf pl ps = some qs → (∀ x ∈ qs.map (·.2.2), r3 c (ev t x) (e x)) →
    All2 (fun (p : Nat × Nat × Value) (q : Nat × Value) => pl q.1 = some (p.1, p.2.1) ∧ r3 c p.2.2 q.2) (evParts t qs) (ps.map fun p => (p.1, e p.2))
  | [], qs, h, _ => by simp [partsOf] at h; subst h; exact .nil
  | (i, x) :: rest, qs, h, he => by
    unfold partsOf at h
    split at h
    · rename_i o s hp
      split at h
      · rename_i r hr
        cases h
        exact .cons ⟨hp, he x (by simp)⟩ (parts_rel hr (fun y hy => he y (by simp at hy ⊢; exact .inr hy)))
      · cases h
    · cases h
theorem all_r0 {c : Cx} {t : Tm} {e : Operand → Value} : ∀ {l : List Operand}, (∀ x ∈ l, r3 c (ev t x) (e x)) → (l.map (ev t)).all isR0 = true → All2 (r0 c) (l.map (ev t)) (l.map e)
  | [], _, _ => .nil
  | x :: l, h, ha => by
    simp only [List.map_cons, List.all_cons, Bool.and_eq_true] at ha
    refine .cons ?_ (all_r0 (fun y hy => h y (by simp [hy])) ha.2)
    have := h x (by simp)
    have h0 := ha.1
    cases hv : ev t x <;> rw [hv] at this h0 <;> first | exact this | cases h0
theorem r3_plain_eq {c : Cx} {v v' : Value} (h : plain0 v = true) (hr : r3 c v v') : v' = v := by
  cases v <;> simp only [r3, r2, r1] at hr <;> first | exact plain0_eq h hr | (exact absurd h (by simp [plain0]))
theorem plain2_of {z : Value} (h : ∀ v ∈ z.cells.toList, plain1 v = true) (hz : notTup z = true) : plain2 z = true := by
  cases z with
  | agg cs => simp only [plain2, List.all_eq_true]; exact h
  | tuple _ => cases hz
  | _ => simp only [plain2]; exact h _ (by simp [Value.cells])
theorem plain0_r3 {c : Cx} {v : Value} (h : plain0 v = true) : r3 c v v := r3_of_r1 (r1_of_r0 (plain0_self h))

theorem exec_builtin (e : Operand → Value) (b : Builtin) (args : List Operand) (ats : List TypeId) (type : TypeId) :
    ∃ cs, (do let d ← resolve e { callee := .builtin b, args := ⟨args⟩, argTypes := ⟨ats⟩ } type; invoke d.target d.args : Sem Next) = builtin b ⟨ats⟩ type cs ⟨args.map e⟩ := by
  refine ⟨(Array.mk args).map (fun | .const _ => true | _ => false), ?_⟩
  show builtin b ⟨ats⟩ type _ ((Array.mk args).map e) = _
  rw [show (Array.mk args).map e = Array.mk (args.map e) from List.map_toArray]
  rfl

set_option maxHeartbeats 2000000 in
theorem sim_step {P : Program} {H H' : Heap} {ρ : Nat → Nat × Nat} {w : World} (hR : Rep H ρ w) {o : Oper} {lo : LOp} (hl : lightOp P o = some lo) {t : Tm} {a : Act}
    (he : ∀ x ∈ lo.ops, r3 (H.cx ρ) (ev t x) (a.eval x)) {v : Value} (hs : step H t lo = some (v, H')) : StpN P H ρ w (execOp a.eval o) v H' := by
  obtain ⟨dst, op, type, pos, after, guard⟩ := o
  cases op <;> simp only [lightOp] at hl <;> (try (cases hl; done)) <;> simp only [execOp]
  case move x =>
    cases hl; simp only [step] at hs; cases hs
    exact StpN.pure hR (he x (by simp [LOp.ops]))
  case assign x =>
    cases hl; simp only [step] at hs; cases hs
    exact StpN.pure hR (he x (by simp [LOp.ops]))
  case pick c x y =>
    cases hl; simp only [step] at hs
    have hc := he c (by simp [LOp.ops])
    split at hs
    · rename_i hcv
      cases hs
      rw [hcv] at hc
      have hc' : a.eval c = .bool true := hc
      refine ⟨ρ, _, _, w, by simp [hc', asBool], .inl rfl, he x (by simp [LOp.ops]), hR, Cx.le.refl _⟩
    · rename_i hcv
      cases hs
      rw [hcv] at hc
      have hc' : a.eval c = .bool false := hc
      refine ⟨ρ, _, _, w, by simp [hc', asBool], .inl rfl, he y (by simp [LOp.ops]), hR, Cx.le.refl _⟩
    · cases hs
  case alloc e =>
    split at hl
    · rename_i i z hz
      cases hl; simp only [step] at hs; cases hs
      obtain ⟨h1, h2, h3, h4, h5, h6, _⟩ := infoZ_spec hz
      exact StpN.of (stp_alloc hR e h1 h2 (plain2_of h3 h4) h5 h6)
    · split at hl
      · rename_i ho
        cases hl; simp only [step] at hs; cases hs
        obtain ⟨i, z, h1, h2, h3⟩ := infoO_spec ho
        exact StpN.of (stp_alloc0 hR e h1 h2 h3)
      · cases hl
  case box e x =>
    split at hl
    · rename_i i hi
      cases hl; simp only [step] at hs
      split at hs
      · rename_i hc
        cases hs
        obtain ⟨h1, h2⟩ := infoS_spec hi
        exact StpN.of (stp_box hR e (he x (by simp [LOp.ops])) hc.1 i.size hc.2 h2)
      · cases hs
    · cases hl
  case build ty ps =>
    split at hl
    · rename_i i hi
      split at hl
      · rename_i z hz
        split at hl
        · rename_i hp
          have hp' : ∀ v ∈ z.cells.toList, plain1 v = true := by simpa only [List.all_eq_true] using hp
          split at hl
          · rename_i fs hfs
            split at hl
            · rename_i pl hpl
              split at hl
              · rename_i qs hqs
                cases hl; simp only [step] at hs
                cases hf : fillA z.cells.toList (evParts t qs) with
                | none => simp [hf] at hs
                | some out =>
                  simp only [hf, Option.map_some, Option.some.injEq, Prod.mk.injEq] at hs
                  obtain ⟨rfl, rfl⟩ := hs
                  refine StpN.of (stp_build_struct hR hfs hi hz hp' hpl (parts := evParts t qs) ?_ hf)
                  have := parts_rel (c := H.cx ρ) (t := t) (e := a.eval) hqs (fun x hx => he x (by simpa [LOp.ops] using hx))
                  simpa using this
              · cases hl
            · cases hl
          · rename_i n e hfs
            split at hl
            · rename_i ie hie
              split at hl
              · rename_i qs hqs
                cases hl; simp only [step] at hs
                cases hf : fillA z.cells.toList (evParts t qs) with
                | none => simp [hf] at hs
                | some out =>
                  simp only [hf, Option.map_some, Option.some.injEq, Prod.mk.injEq] at hs
                  obtain ⟨rfl, rfl⟩ := hs
                  refine StpN.of (stp_build_array hR hfs hi hie hz hp' (parts := evParts t qs) ?_ hf)
                  have := parts_rel (c := H.cx ρ) (t := t) (e := a.eval) hqs (fun x hx => he x (by simpa [LOp.ops] using hx))
                  simpa using this
              · cases hl
            · cases hl
          · cases hl
        · cases hl
      · cases hl
    · cases hl
  case buildSlice ty len ps =>
    split at hl
    · rename_i e hty
      split at hl
      · rename_i ie z hz
        split at hl
        · rename_i hle
          split at hl
          · rename_i qs hqs
            cases hl; simp only [step] at hs
            obtain ⟨h1, h2, h3, h4, h5, h6, _⟩ := infoZ_spec hz
            cases hf : fillA (zerosA z.cells.toList (len * ie.size)) (evParts t qs) with
            | none => simp [hf] at hs
            | some out =>
              simp only [hf, Option.bind_some] at hs
              split at hs
              · rename_i hout
                cases hs
                refine StpN.of (stp_buildSlice hR hty h1 h2 h5 h6 hle h3 (parts := evParts t qs) ?_ hf hout)
                have := parts_rel (c := H.cx ρ) (t := t) (e := a.eval) hqs (fun x hx => he x (by simpa [LOp.ops] using hx))
                simpa using this
              · cases hs
          · cases hl
        · cases hl
      · cases hl
    · cases hl
  case load ty x =>
    split at hl
    · rename_i b n hb
      cases hl; simp only [step] at hs
      obtain ⟨d, i, hd, hi, rfl, rfl, hpos⟩ := aggInfo_spec hb
      cases hv : sLoad H (aggOf d) i.size (ev t x) with
      | none => simp [hv] at hs
      | some u =>
        simp only [hv, Option.map_some, Option.some.injEq, Prod.mk.injEq] at hs
        obtain ⟨rfl, rfl⟩ := hs
        exact StpN.of (stp_load hR hd hi (he x (by simp [LOp.ops])) hv hpos)
    · cases hl
  case store ty x y =>
    split at hl
    · rename_i i h1
      cases hl; simp only [step] at hs
      cases hv : sStore H i.size (ev t x) (ev t y) with
      | none => simp [hv] at hs
      | some H1 =>
        simp only [hv, Option.map_some, Option.some.injEq, Prod.mk.injEq] at hs
        obtain ⟨rfl, rfl⟩ := hs
        obtain ⟨w', hrun, hR', hb, hn⟩ := stp_store (P := P) hR h1 (he x (by simp [LOp.ops])) (he y (by simp [LOp.ops])) hv
        exact ⟨ρ, .skip, undef, w', by simp [hrun], .inr ⟨rfl, rfl⟩, ⟨#[], rfl, .nil⟩, hR', le_same H ρ hb (by omega)⟩
    · cases hl
  case nilCheck x =>
    cases hl; simp only [step] at hs
    have hx := he x (by simp [LOp.ops])
    cases hv : sNilCheck (ev t x) with
    | none => simp [hv] at hs
    | some u =>
      simp only [hv, Option.map_some, Option.some.injEq, Prod.mk.injEq] at hs
      obtain ⟨rfl, rfl⟩ := hs
      unfold sNilCheck at hv
      split at hv
      · rename_i ad hx0
        cases hv
        rw [hx0] at hx
        obtain ⟨hok, hx'⟩ := r3_ptr hx
        rw [hx']
        exact StpN.pure hR ⟨hok, rfl⟩
      · rename_i ty u hx0
        cases hv
        rw [hx0] at hx
        obtain ⟨u', hx', hu⟩ : ∃ u', a.eval x = .iface ty u' ∧ r0i (H.cx ρ) u u' := hx
        rw [hx']
        exact StpN.pure hR ⟨u', rfl, hu⟩
      · rename_i f p q hx0
        cases hv
        rw [hx0] at hx
        obtain ⟨p', q', hx', h1, h2⟩ : ∃ p' q', a.eval x = .func (.func f) p' q' ∧ All2 (r0 (H.cx ρ)) p.toList p'.toList ∧ All2 (r0 (H.cx ρ)) q.toList q'.toList := hx
        rw [hx']
        exact StpN.pure hR ⟨p', q', rfl, h1, h2⟩
      · cases hv
  case makeMap ty res =>
    cases res with
    | some r => simp at hl
    | none =>
      simp only [Option.isNone_none, if_true] at hl
      cases hl; simp only [step] at hs; cases hs
      exact StpN.of (stp_makeMap hR ty)
  case lookup xT x i c =>
    split at hl
    · rename_i kt et hty
      split at hl
      · rename_i d hd
        split at hl
        · rename_i z hz
          cases hl; simp only [step] at hs
          obtain ⟨ie, h1, h2, h3⟩ := zeroV_spec hz
          cases hv : sLookup H d z c (ev t x) (ev t i) with
          | none => simp [hv] at hs
          | some u =>
            simp only [hv, Option.map_some, Option.some.injEq, Prod.mk.injEq] at hs
            obtain ⟨rfl, rfl⟩ := hs
            exact StpN.of (stp_lookup hR hty (keyDesc_spec hd) h1 h2 h3 (he x (by simp [LOp.ops])) (he i (by simp [LOp.ops])) hv)
        · cases hl
      · cases hl
    · cases hl
  case mapUpdate xT x k y =>
    split at hl
    · rename_i kt et hty
      split at hl
      · rename_i d hd
        cases hl; simp only [step] at hs
        cases hv : sMapUpdate H d (ev t x) (ev t k) (ev t y) with
        | none => simp [hv] at hs
        | some H1 =>
          simp only [hv, Option.map_some, Option.some.injEq, Prod.mk.injEq] at hs
          obtain ⟨rfl, rfl⟩ := hs
          obtain ⟨w', hrun, hR', hb, hn⟩ := stp_mapUpdate (P := P) hR hty (keyDesc_spec hd) (he x (by simp [LOp.ops])) (he k (by simp [LOp.ops])) (he y (by simp [LOp.ops])) hv
          exact ⟨ρ, .skip, undef, w', by simp [hrun], .inr ⟨rfl, rfl⟩, ⟨#[], rfl, .nil⟩, hR', le_same H ρ hb (by omega)⟩
      · cases hl
    · cases hl
  case insert xT x k y =>
    split at hl
    · rename_i kt et hty
      split at hl
      · rename_i d hd
        cases hl; simp only [step] at hs
        cases hv : sMapUpdate H d (ev t x) (ev t k) (ev t y) with
        | none => simp [hv] at hs
        | some H1 =>
          simp only [hv, Option.map_some, Option.some.injEq, Prod.mk.injEq] at hs
          obtain ⟨rfl, rfl⟩ := hs
          obtain ⟨w', hrun, hR', hb, hn⟩ := stp_mapUpdate (P := P) hR hty (keyDesc_spec hd) (he x (by simp [LOp.ops])) (he k (by simp [LOp.ops])) (he y (by simp [LOp.ops])) hv
          exact ⟨ρ, .skip, undef, w', by simp [hrun], .inr ⟨rfl, rfl⟩, ⟨#[], rfl, .nil⟩, hR', le_same H ρ hb (by omega)⟩
      · cases hl
    · cases hl
  case mapEntry xT x k =>
    split at hl
    · rename_i kt et hty
      split at hl
      · rename_i d hd
        split at hl
        · rename_i z hz
          cases hl; simp only [step] at hs
          obtain ⟨ie, h1, h2, h3⟩ := zeroV_spec hz
          exact StpN.of (stp_mapEntry hR hty (keyDesc_spec hd) h1 h2 h3 (he x (by simp [LOp.ops])) (he k (by simp [LOp.ops])) hs)
        · cases hl
      · cases hl
    · cases hl
  case entryStore xT x s y =>
    cases hl; simp only [step] at hs
    cases hv : sEntryStore H (ev t x) (ev t s) (ev t y) with
    | none => simp [hv] at hs
    | some H1 =>
      simp only [hv, Option.map_some, Option.some.injEq, Prod.mk.injEq] at hs
      obtain ⟨rfl, rfl⟩ := hs
      obtain ⟨w', hrun, hR', hb, hn⟩ := stp_entryStore (P := P) hR xT (he x (by simp [LOp.ops])) (he s (by simp [LOp.ops])) (he y (by simp [LOp.ops])) hv
      exact ⟨ρ, .skip, undef, w', by simp [hrun], .inr ⟨rfl, rfl⟩, ⟨#[], rfl, .nil⟩, hR', le_same H ρ hb (by omega)⟩
  case range xT x =>
    split at hl
    · rename_i kt et hty
      cases hl; simp only [step] at hs
      exact StpN.of (stp_range hR hty (he x (by simp [LOp.ops])) hs)
    · cases hl
  case next x str =>
    split at hl
    · cases hl
    · rename_i hstr
      cases hl; simp only [step] at hs
      have : str = false := by simpa using hstr
      subst this
      exact StpN.of (stp_next hR type (he x (by simp [LOp.ops])) hs)
  case entry x =>
    cases hl; simp only [step] at hs
    cases hv : sEntry H (ev t x) with
    | none => simp [hv] at hs
    | some u =>
      simp only [hv, Option.map_some, Option.some.injEq, Prod.mk.injEq] at hs
      obtain ⟨rfl, rfl⟩ := hs
      exact StpN.of (stp_entry hR (he x (by simp [LOp.ops])) hv)
  case typeAssert x xT ty c =>
    split at hl
    · rename_i d hd
      split at hl
      · rename_i hdi
        split at hl
        · rename_i z hz
          cases hl; simp only [step] at hs
          obtain ⟨ie, h1, h2, h3⟩ := zeroV_spec hz
          cases hv : sAssert ty z c (ev t x) with
          | none => simp [hv] at hs
          | some u =>
            simp only [hv, Option.map_some, Option.some.injEq, Prod.mk.injEq] at hs
            obtain ⟨rfl, rfl⟩ := hs
            exact StpN.of (stp_assert hR hd hdi h1 h2 h3 (he x (by simp [LOp.ops])) hv)
        · cases hl
      · cases hl
    · cases hl
  case binOp op xT x y yT =>
    have bincase : ∀ {u : Value}, sBin op (ev t x) (ev t y) = some u → r3 (H.cx ρ) (ev t x) (a.eval x) → r3 (H.cx ρ) (ev t y) (a.eval y) →
        StpN P H ρ w (do pure (.value (← (do eqGuard op xT x y (a.eval x) (a.eval y); binOp op xT (a.eval x) (a.eval y))))) u H := by
      intro u hu hx hy
      obtain ⟨h1, h2, h3, h4⟩ := sBin_run hu P w xT x y
      rw [r3_plain_eq h3 hx, r3_plain_eq h4 hy]
      exact StpN.of (Stp.same hR h1 (plain0_r3 h2))
    have doBin : lo = .bin op x y → StpN P H ρ w (do pure (.value (← (do eqGuard op xT x y (a.eval x) (a.eval y); binOp op xT (a.eval x) (a.eval y))))) v H' := by
      intro hlo
      subst hlo
      simp only [step] at hs
      cases hv : sBin op (ev t x) (ev t y) with
      | none => simp [hv] at hs
      | some u =>
        simp only [hv, Option.map_some, Option.some.injEq, Prod.mk.injEq] at hs
        obtain ⟨rfl, rfl⟩ := hs
        exact bincase hv (he x (by simp [LOp.ops])) (he y (by simp [LOp.ops]))
    split at hl
    · rename_i neq hneq
      have hop : op = (if neq then .neq else .eql) := by
        unfold eqKind at hneq
        split at hneq <;> first | (cases hneq; rfl) | cases hneq
      split at hl
      · rename_i hd
        cases hl; simp only [step] at hs
        have hx := he x (by simp [LOp.ops])
        have hy := he y (by simp [LOp.ops])
        split at hs
        · rename_i p q hp hq
          cases hs
          rw [hp] at hx; rw [hq] at hy
          have hx' : a.eval x = .bool p := hx
          have hy' : a.eval y = .bool q := hy
          rw [hx', hy', hop]
          exact StpN.of (Stp.same hR (run_eql_bool p q x y hd neq) rfl)
        · cases hs
      · cases hl; exact doBin rfl
      · cases hl; exact doBin rfl
      · rename_i d hd1 hd2 hd3 hd
        split at hl
        · rename_i hfl
          cases hl; simp only [step] at hs
          obtain ⟨y0, rfl, hy0⟩ := fitLit_spec hfl
          have hx := he x (by simp [LOp.ops])
          split at hs
          · rename_i hfit
            cases hv : isNil (ev t x) with
            | none => simp [hv] at hs
            | some b =>
              simp only [hv, Option.map_some, Option.some.injEq, Prod.mk.injEq] at hs
              obtain ⟨rfl, rfl⟩ := hs
              have := run_eql_nil (P := P) (w := w) x hd hy0 (fitsNil_rel hfit hx) (isNil_rel hv hx) neq
              rw [hop]
              exact StpN.of (Stp.same hR this rfl)
          · cases hs
        · split at hl
          · cases hl; simp [step] at hs
          · cases hl
      · cases hl
    · cases hl; exact doBin rfl
  case unOp op xT x =>
    cases hl; simp only [step] at hs
    cases hv : sUn op (ev t x) with
    | none => simp [hv] at hs
    | some u =>
      simp only [hv, Option.map_some, Option.some.injEq, Prod.mk.injEq] at hs
      obtain ⟨rfl, rfl⟩ := hs
      obtain ⟨h1, h2, h3⟩ := sUn_run hv P w
      rw [r3_plain_eq h3 (he x (by simp [LOp.ops]))]
      exact StpN.of (Stp.same hR h1 (plain0_r3 h2))
  case convert src dst x =>
    split at hl
    · rename_i k hd
      split at hl
      case isFalse => cases hl
      rename_i hsome
      cases hl; simp only [step] at hs
      have hx := he x (by simp [LOp.ops])
      cases hv : sConv k (ev t x) with
      | none => simp [hv] at hs
      | some u =>
        simp only [hv, Option.map_some, Option.some.injEq, Prod.mk.injEq] at hs
        obtain ⟨rfl, rfl⟩ := hs
        unfold sConv at hv
        split at hv
        · rename_i k' n hx0
          cases hv
          rw [hx0] at hx
          have hx' := r3_int hx
          have hrun : (convert src dst (a.eval x)).run P w = .ok (.int k (k.wrap n)) w := by
            rw [hx']
            cases hsrc : P.underlying src with
            | none => rw [hsrc] at hsome; cases hsome
            | some ds => cases ds <;> simp [convert, run_underlying hsrc, run_underlying hd, Conv.intToInt]
          exact StpN.of (Stp.same hR hrun rfl)
        · cases hv
    · rename_i hd
      split at hl
      · rename_i hsrc
        cases hl; simp only [step] at hs
        have hx := he x (by simp [LOp.ops])
        cases hv : sSame (ev t x) with
        | none => simp [hv] at hs
        | some u =>
          simp only [hv, Option.map_some, Option.some.injEq, Prod.mk.injEq] at hs
          obtain ⟨rfl, rfl⟩ := hs
          unfold sSame at hv
          split at hv
          · rename_i s hx0
            cases hv
            rw [hx0] at hx
            have hx' : a.eval x = .string s := hx
            have hrun : (convert src dst (a.eval x)).run P w = .ok (.string s) w := by
              rw [hx']; simp [convert, run_underlying hsrc, run_underlying hd]
            exact StpN.of (Stp.same hR hrun rfl)
          · cases hv
      · rename_i e hsrc
        split at hl
        · rename_i he8
          cases hl; simp only [step] at hs
          cases hv : sToStr H (ev t x) with
          | none => simp [hv] at hs
          | some u =>
            simp only [hv, Option.map_some, Option.some.injEq, Prod.mk.injEq] at hs
            obtain ⟨rfl, rfl⟩ := hs
            exact StpN.of (stp_toStr hR hsrc he8 hd (he x (by simp [LOp.ops])) hv)
        · cases hl
      · cases hl
    · rename_i e hd
      split at hl
      · rename_i he8
        split at hl
        · rename_i hsrc
          cases hl; simp only [step] at hs
          exact StpN.of (stp_toBytes hR hsrc hd he8 (he x (by simp [LOp.ops])) hs)
        · rename_i e' hsrc
          split at hl
          · rename_i hc
            obtain ⟨rfl, rfl⟩ := hc
            cases hl; simp only [step] at hs
            cases hv : sMark H (ev t x) with
            | none => simp [hv] at hs
            | some u =>
              simp only [hv, Option.map_some, Option.some.injEq, Prod.mk.injEq] at hs
              obtain ⟨rfl, rfl⟩ := hs
              exact StpN.of (stp_mark hR hd he8 (he x (by simp [LOp.ops])) hv)
          · cases hl
        · cases hl
      · cases hl
    · cases hl
  case sliceToArrayPointer ty x =>
    split at hl
    · rename_i n e hty
      cases hl; simp only [step] at hs
      cases hv : sArr n (ev t x) with
      | none => simp [hv] at hs
      | some u =>
        simp only [hv, Option.map_some, Option.some.injEq, Prod.mk.injEq] at hs
        obtain ⟨rfl, rfl⟩ := hs
        exact StpN.of (stp_arr hR hty (he x (by simp [LOp.ops])) hv)
    · cases hl
  case panic x => cases hl; cases hs
  case makeInterface ty x =>
    split at hl
    · rename_i hc
      cases hl; simp only [step] at hs
      cases hv : sIface ty (ev t x) with
      | none => simp [hv] at hs
      | some u =>
        simp only [hv, Option.map_some, Option.some.injEq, Prod.mk.injEq] at hs
        obtain ⟨rfl, rfl⟩ := hs
        have hx := he x (by simp [LOp.ops])
        have hrun : (Instr.makeInterface ty (a.eval x)).run P w = .ok (.iface ty (a.eval x)) w := run_makeInterface w ty _ hc
        refine StpN.of (Stp.same hR hrun ?_)
        unfold sIface at hv
        split at hv <;> (try (cases hv; done))
        · rename_i cs hcs
          split at hv
          · rename_i hp
            cases hv
            rw [hcs] at hx
            refine ⟨a.eval x, rfl, .inr ⟨hp, ?_⟩⟩
            obtain ⟨cs', hx', hr⟩ : ∃ cs', a.eval x = .agg cs' ∧ All2 (r1 (H.cx ρ)) cs.toList cs'.toList := hx
            simp only [plainAgg, List.all_eq_true] at hp
            rw [hx', Array.toList_inj.1 (all2_plain1_eq (fun x hx => plain1_of_0 (hp x hx)) hr)]
          · cases hv
        cases hv
        refine ⟨a.eval x, rfl, .inl ?_⟩
        cases hvv : ev t x <;> rw [hvv] at hx <;> first | exact hx | (rename_i q1 q2 q3 q4; exact absurd hvv (by first | exact q1 _ | exact q2 _ | exact q3 _ _ | exact q4 _ _ _)) | (rename_i q1 q2 q3 q4 y1; exact absurd hvv (by first | exact q1 _ | exact q2 _ )) | (rename_i q1 q2 q3 q4 y1 y2; exact absurd hvv (q3 _ _)) | (rename_i q1 q2 q3 q4 y1 y2 y3; exact absurd hvv (q4 _ _ _))
    · cases hl
  case makeFunc fn f c =>
    cases hl; simp only [step] at hs
    split at hs
    · rename_i hc
      cases hs
      refine StpN.of (Stp.same (v' := .func fn (f.map a.eval) (c.map a.eval)) hR (by simp [Instr.makeFunc]) ⟨_, _, rfl, ?_, ?_⟩)
      · simpa using all_r0 (fun x hx => he x (by simp [LOp.ops]; exact .inl (by simpa using hx))) hc.1
      · simpa using all_r0 (fun x hx => he x (by simp [LOp.ops]; exact .inr (by simpa using hx))) hc.2
    · cases hs
  case makeSlice ty l c =>
    split at hl
    · rename_i e hty
      split at hl
      · rename_i ie z hz
        cases hl; simp only [step] at hs
        obtain ⟨h1, h2, h3, h4, h5, h6, _⟩ := infoZ_spec hz
        exact StpN.of (stp_make hR hty h1 h2 h5 h6 h3 (he l (by simp [LOp.ops])) (he c (by simp [LOp.ops])) hs)
      · cases hl
    · cases hl
  case slice ty x lo hi mx =>
    split at hl
    · rename_i e hty
      split at hl
      · rename_i ie hie
        cases hl; simp only [step] at hs
        cases hv : sSlice ie.size (ev t x) (lo.map (ev t)) (hi.map (ev t)) (mx.map (ev t)) with
        | none => simp [hv] at hs
        | some u =>
          simp only [hv, Option.map_some, Option.some.injEq, Prod.mk.injEq] at hs
          obtain ⟨rfl, rfl⟩ := hs
          exact StpN.of (stp_slice hR hty hie (he x (by simp [LOp.ops])) (relO_map (fun y hy => he y (by simp only [LOp.ops, List.mem_cons, List.mem_append]; exact .inr (.inl (.inl hy)))))
            (relO_map (fun y hy => he y (by simp only [LOp.ops, List.mem_cons, List.mem_append]; exact .inr (.inl (.inr hy))))) (relO_map (fun y hy => he y (by simp only [LOp.ops, List.mem_cons, List.mem_append]; exact .inr (.inr hy)))) hv)
      · cases hl
    · rename_i n e hty
      split at hl
      · rename_i ie hie
        cases hl; simp only [step] at hs
        cases hv : sSliceArr n ie.size (ev t x) (lo.map (ev t)) (hi.map (ev t)) (mx.map (ev t)) with
        | none => simp [hv] at hs
        | some u =>
          simp only [hv, Option.map_some, Option.some.injEq, Prod.mk.injEq] at hs
          obtain ⟨rfl, rfl⟩ := hs
          exact StpN.of (stp_sliceArr hR hty hie (he x (by simp [LOp.ops])) (relO_map (fun y hy => he y (by simp only [LOp.ops, List.mem_cons, List.mem_append]; exact .inr (.inl (.inl hy)))))
            (relO_map (fun y hy => he y (by simp only [LOp.ops, List.mem_cons, List.mem_append]; exact .inr (.inl (.inr hy))))) (relO_map (fun y hy => he y (by simp only [LOp.ops, List.mem_cons, List.mem_append]; exact .inr (.inr hy)))) hv)
      · cases hl
    · rename_i hty
      split at hl
      · cases hl; simp only [step] at hs
        cases hv : sSliceStr (ev t x) (lo.map (ev t)) (hi.map (ev t)) with
        | none => simp [hv] at hs
        | some u =>
          simp only [hv, Option.map_some, Option.some.injEq, Prod.mk.injEq] at hs
          obtain ⟨rfl, rfl⟩ := hs
          exact StpN.of (stp_sliceStr hR hty (he x (by simp [LOp.ops])) (relO_map (fun y hy => he y (by simp only [LOp.ops, List.mem_cons, List.mem_append]; exact .inr (.inl hy))))
            (relO_map (fun y hy => he y (by simp only [LOp.ops, List.mem_cons, List.mem_append]; exact .inr (.inr hy)))) hv)
      · cases hl
    · cases hl
  case fieldAddr s x f =>
    split at hl
    · rename_i fs hfs
      split at hl
      · rename_i fd hfd
        split at hl
        · rename_i i hi
          cases hl; simp only [step] at hs
          obtain ⟨h1, h2⟩ := infoS_spec hi
          cases hv : sOff fd.offset (ev t x) with
          | none => simp [hv] at hs
          | some u =>
            simp only [hv, Option.map_some, Option.some.injEq, Prod.mk.injEq] at hs
            obtain ⟨rfl, rfl⟩ := hs
            exact StpN.of (stp_off hR hfs hfd h1 h2 (he x (by simp [LOp.ops])) hv)
        · cases hl
      · cases hl
    · cases hl
  case field xT x f =>
    split at hl
    · rename_i fs hfs
      split at hl
      · rename_i fd hfd
        split at hl
        · rename_i b n hb
          cases hl; simp only [step] at hs
          obtain ⟨d, i, hd, hi, rfl, rfl, hpos⟩ := aggInfo_spec hb
          cases hv : sFld (aggOf d) fd.offset i.size (ev t x) with
          | none => simp [hv] at hs
          | some u =>
            simp only [hv, Option.map_some, Option.some.injEq, Prod.mk.injEq] at hs
            obtain ⟨rfl, rfl⟩ := hs
            exact StpN.of (stp_fld hR hfs hfd hd hi (he x (by simp [LOp.ops])) hv)
        · cases hl
      · cases hl
    · cases hl
  case indexAddr ty x i =>
    split at hl
    · rename_i e hty
      split at hl
      · rename_i ie hie
        cases hl; simp only [step] at hs
        cases hv : sIdx ie.size (ev t x) (ev t i) with
        | none => simp [hv] at hs
        | some u =>
          simp only [hv, Option.map_some, Option.some.injEq, Prod.mk.injEq] at hs
          obtain ⟨rfl, rfl⟩ := hs
          exact StpN.of (stp_idx hR hty hie (he x (by simp [LOp.ops])) (he i (by simp [LOp.ops])) hv)
      · cases hl
    · rename_i n e hty
      split at hl
      · rename_i ie hie
        cases hl; simp only [step] at hs
        cases hv : sIdxArr n ie.size (ev t x) (ev t i) with
        | none => simp [hv] at hs
        | some u =>
          simp only [hv, Option.map_some, Option.some.injEq, Prod.mk.injEq] at hs
          obtain ⟨rfl, rfl⟩ := hs
          exact StpN.of (stp_idxArr hR hty hie (he x (by simp [LOp.ops])) (he i (by simp [LOp.ops])) hv)
      · cases hl
    · cases hl
  case index xT x i =>
    split at hl
    · rename_i hty
      cases hl; simp only [step] at hs
      cases hv : sIdxStr (ev t x) (ev t i) with
      | none => simp [hv] at hs
      | some u =>
        simp only [hv, Option.map_some, Option.some.injEq, Prod.mk.injEq] at hs
        obtain ⟨rfl, rfl⟩ := hs
        exact StpN.of (stp_idxStr hR hty (he x (by simp [LOp.ops])) (he i (by simp [LOp.ops])) hv)
    · rename_i len e hty
      split at hl
      · rename_i b n hb
        cases hl; simp only [step] at hs
        obtain ⟨d, ie, hd, hi, rfl, rfl, hpos⟩ := aggInfo_spec hb
        cases hv : sIdxAgg (aggOf d) len ie.size (ev t x) (ev t i) with
        | none => simp [hv] at hs
        | some u =>
          simp only [hv, Option.map_some, Option.some.injEq, Prod.mk.injEq] at hs
          obtain ⟨rfl, rfl⟩ := hs
          exact StpN.of (stp_idxAgg hR hty hd hi (he x (by simp [LOp.ops])) (he i (by simp [LOp.ops])) hv)
      · cases hl
    · cases hl
  case extract x i =>
    cases hl; simp only [step] at hs
    cases hv : sExtract (ev t x) i with
    | none => simp [hv] at hs
    | some u =>
      simp only [hv, Option.map_some, Option.some.injEq, Prod.mk.injEq] at hs
      obtain ⟨rfl, rfl⟩ := hs
      exact StpN.of (stp_extract hR (he x (by simp [LOp.ops])) hv)
  case call c =>
    obtain ⟨callee, args, argTypes⟩ := c
    cases callee with
    | value f =>
      simp only at hl
      split at hl
      · split at hl
        · split at hl
          · cases hl; simp [step] at hs
          · cases hl
        · cases hl
      · cases hl; simp [step] at hs
      · rename_i h; cases h
      · rename_i h; cases h
    | invoke x m => simp only at hl; cases hl; simp [step] at hs
    | builtin b =>
      simp only at hl
      obtain ⟨args⟩ := args
      obtain ⟨argTypes⟩ := argTypes
      obtain ⟨consts, hex⟩ := exec_builtin a.eval b args argTypes type
      rw [hex]
      clear hex
      have mm : ∀ (mx : Bool) {x : Operand} {rest : List Operand}, (if mx then Builtin.max_ ⟨argTypes⟩ type else Builtin.min_ ⟨argTypes⟩ type) = (if mx then Builtin.max_ ⟨argTypes⟩ type else Builtin.min_ ⟨argTypes⟩ type) → (∀ y ∈ x :: rest, r3 (H.cx ρ) (ev t y) (a.eval y)) → step H t (.minmax mx x rest) = some (v, H') →
          StpN P H ρ w (do pure (.value (← (if mx then Builtin.max_ ⟨argTypes⟩ type else Builtin.min_ ⟨argTypes⟩ type) ⟨(x :: rest).map a.eval⟩))) v H' := by
        intro mx x rest _ hr hs
        simp only [step] at hs
        split at hs
        · rename_i k n hx0
          cases hv : sMinMax mx (.int k n) (rest.map (ev t)) with
          | none => simp [hv] at hs
          | some u =>
            simp only [hv, Option.map_some, Option.some.injEq, Prod.mk.injEq] at hs
            obtain ⟨rfl, rfl⟩ := hs
            obtain ⟨h1, h2⟩ := sMinMax_plain hv rfl
            have hx := hr x (by simp)
            rw [hx0] at hx
            have hx' : a.eval x = .int k n := hx
            have hrest : rest.map a.eval = rest.map (ev t) := by
              apply List.map_congr_left
              intro y hy
              exact r3_plain_eq (h2 _ (List.mem_map.2 ⟨y, hy, rfl⟩)) (hr y (by simp [hy]))
            have hrun := run_minmax (P := P) (w := w) hv
            refine StpN.of (Stp.same (v' := u) hR ?_ (plain0_r3 h1))
            rw [List.map_cons, hx', hrest]
            cases mx
            · simpa [Builtin.min_] using hrun
            · simpa [Builtin.max_] using hrun
        · cases hs
      split at hl
      · rename_i x y ty u h1 h2
        have h1' : args = [x, y] := h1
        have h2' : argTypes = [ty, u] := h2
        subst h1' h2'
        split at hl
        · rename_i e hty
          split at hl
          · rename_i ie z hz
            obtain ⟨q1, q2, q3, q4, q5, q6, q7⟩ := infoZ_spec hz
            have fin : ∀ (hu : (∃ e', P.underlying u = some (.slice e')) ∨ P.underlying u = some .string), lo = .append e ie.size ie.bytes x y →
                StpN P H ρ w (builtin .append ⟨[ty, u]⟩ type consts ⟨[x, y].map a.eval⟩) v H' := by
              intro hu hlo
              subst hlo
              simp only [step] at hs
              exact StpN.of (stp_append hR hty hu q1 q2 q5 q6 q7 (he x (by simp [LOp.ops])) (he y (by simp [LOp.ops])) hs)
            split at hl
            · rename_i e' hu; cases hl; exact fin (.inl ⟨_, hu⟩) rfl
            · rename_i hu; cases hl; exact fin (.inr hu) rfl
            · cases hl
          · cases hl
        · cases hl
      · rename_i x y ty u h1 h2
        have h1' : args = [x, y] := h1
        have h2' : argTypes = [ty, u] := h2
        subst h1' h2'
        split at hl
        · rename_i e hty
          split at hl
          · rename_i ie hie
            cases hl
            simp only [step] at hs
            exact StpN.of (stp_copy hR hty hie (he x (by simp [LOp.ops])) (he y (by simp [LOp.ops])) hs)
          · cases hl
        · cases hl
      · rename_i x ty h1 h2
        have h1' : args = [x] := h1
        have h2' : argTypes = [ty] := h2
        subst h1' h2'
        split at hl
        · rename_i hty
          cases hl; simp only [step] at hs
          have hx := he x (by simp [LOp.ops])
          split at hs
          · rename_i s hx0
            cases hs
            rw [hx0] at hx
            exact StpN.of (stp_len (x := .string s) hR (.inr hty) hty hx rfl)
          · cases hs
        · rename_i e hty
          cases hl; simp only [step] at hs
          have hx := he x (by simp [LOp.ops])
          split at hs
          · rename_i ad n k hx0
            cases hs
            rw [hx0] at hx
            exact StpN.of (stp_len (x := .slice ad n k) hR (.inl ⟨e, hty⟩) ⟨e, hty⟩ hx rfl)
          · cases hs
        · rename_i n e hty
          cases hl; simp only [step] at hs
          cases hs
          exact StpN.of (Stp.same (v' := .int .i64 n) hR (by simp [Builtin.len_, run_underlying hty, goInt]) rfl)
        · rename_i kt et hty
          cases hl; simp only [step] at hs
          cases hv : sLenM H (ev t x) with
          | none => simp [hv] at hs
          | some u =>
            simp only [hv, Option.map_some, Option.some.injEq, Prod.mk.injEq] at hs
            obtain ⟨rfl, rfl⟩ := hs
            exact StpN.of (stp_lenM hR hty (he x (by simp [LOp.ops])) hv)
        · cases hl
      · rename_i x k ty u h1 h2
        have h1' : args = [x, k] := h1
        have h2' : argTypes = [ty, u] := h2
        subst h1' h2'
        split at hl
        · rename_i kt et hty
          split at hl
          · rename_i d hd
            cases hl; simp only [step] at hs
            cases hv : sDelete H d (ev t x) (ev t k) with
            | none => simp [hv] at hs
            | some H1 =>
              simp only [hv, Option.map_some, Option.some.injEq, Prod.mk.injEq] at hs
              obtain ⟨rfl, rfl⟩ := hs
              exact StpN.of (stp_delete hR hty (keyDesc_spec hd) (he x (by simp [LOp.ops])) (he k (by simp [LOp.ops])) hv)
          · cases hl
        · cases hl
      · rename_i x ty h1 h2
        have h1' : args = [x] := h1
        have h2' : argTypes = [ty] := h2
        subst h1' h2'
        split at hl
        · rename_i e hty
          split at hl
          · rename_i ie z hz
            obtain ⟨q1, q2, q3, q4, q5, q6, q7⟩ := infoZ_spec hz
            cases hl; simp only [step] at hs
            cases hv : sClear H ie.size z.cells.toList (ev t x) with
            | none => simp [hv] at hs
            | some H1 =>
              simp only [hv, Option.map_some, Option.some.injEq, Prod.mk.injEq] at hs
              obtain ⟨rfl, rfl⟩ := hs
              exact StpN.of (stp_clear hR hty q1 q2 q5 q6 q3 (he x (by simp [LOp.ops])) hv)
          · cases hl
        · cases hl
      · rename_i x rest h1
        have h1' : args = x :: rest := h1
        subst h1'
        cases hl
        exact mm false rfl (by simp [LOp.ops]; exact ⟨he x (by simp [LOp.ops]), fun y hy => he y (by simp [LOp.ops, hy])⟩) hs
      · rename_i x rest h1
        have h1' : args = x :: rest := h1
        subst h1'
        cases hl
        exact mm true rfl (by simp [LOp.ops]; exact ⟨he x (by simp [LOp.ops]), fun y hy => he y (by simp [LOp.ops, hy])⟩) hs
      · cases hl
end Go.Ot
