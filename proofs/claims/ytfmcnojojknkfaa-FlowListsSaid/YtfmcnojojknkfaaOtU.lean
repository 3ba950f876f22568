/-
  Part U: an outcome can be named: a contract out of a body, with what holds of its value and heap.
-/
import Derived.Test.YtfmcnojojknkfaaOtT
set_option linter.unusedVariables false
set_option linter.unusedSimpArgs false
namespace Go.Ot
open Go.RowKit

structure Grow (H H' : Heap) : Prop where
  base : H'.base = H.base
  next : H.next ≤ H'.next
  wf : H.WF → H'.WF
theorem Grow.refl (H : Heap) : Grow H H := ⟨rfl, Nat.le_refl _, id⟩
theorem Grow.trans {H H1 H2 : Heap} (h : Grow H H1) (h' : Grow H1 H2) : Grow H H2 := ⟨h'.base.trans h.base, Nat.le_trans h.next h'.next, fun w => h'.wf (h.wf w)⟩
theorem Grow.new (H : Heap) (ty sz : Nat) (cs : List Value) : Grow H (H.new ty sz cs) := ⟨rfl, by simp, fun h => WF_new h ty sz cs⟩
theorem Grow.put (H : Heap) (b : Nat) (cs : List Value) : Grow H (H.put b cs) := ⟨rfl, by simp, fun h => WF_put h b cs⟩
theorem Grow.kill (H : Heap) (b : Nat) : Grow H (H.kill b) := ⟨rfl, by simp, fun h => WF_kill h b⟩
theorem T.grow {P : Program} {f : FuncId} {args : List Value} {H : Heap} {v : Value} {H' : Heap} (h : T P f args H v H') : Grow H H' := ⟨h.1, h.2.1, h.2.2.1⟩
theorem store_grow {H H' : Heap} {a : Addr} {v : Value} (h : H.store a v = some H') : Grow H H' := by
  unfold Heap.store at h
  split at h
  · cases h
  · split at h
    · cases hk : H.blk a.block with
      | none => simp [hk] at h
      | some k =>
        simp only [hk, Option.bind_some] at h
        split at h
        · cases h; exact Grow.put _ _ _
        · cases h
    · cases h
theorem storeN_grow : ∀ {vs : List Value} {a : Addr} {i : Nat} {H H' : Heap}, Heap.storeN a i vs H = some H' → Grow H H'
  | [], _, _, _, _, h => by simp [Heap.storeN] at h; subst h; exact Grow.refl _
  | v :: vs, a, i, H, H', h => by
    simp only [Heap.storeN] at h
    cases h1 : H.store (a.add i) v with
    | none => simp [h1] at h
    | some H1 =>
      simp only [h1, Option.bind_some] at h
      exact (store_grow h1).trans (storeN_grow h)
theorem sMake_grow {H H' : Heap} {ety sz b : Nat} {z : List Value} {l c v : Value} (h : sMake H ety sz b z l c = some (v, H')) : Grow H H' := by
  unfold sMake at h
  split at h
  · split at h
    · cases h; exact Grow.new _ _ _ _
    · cases h
  · cases h
theorem sToBytes_grow {H H' : Heap} {ety : Nat} {x v : Value} (h : sToBytes H ety x = some (v, H')) : Grow H H' := by
  unfold sToBytes at h
  split at h
  · split at h
    · cases h; exact Grow.new _ _ _ _
    · cases h
  · cases h
theorem sAppend_grow {H H' : Heap} {ety sz b : Nat} {x y v : Value} (h : sAppend H ety sz b x y = some (v, H')) : Grow H H' := by
  unfold sAppend at h
  cases hs : srcCells H sz y with
  | none => simp [hs] at h
  | some mx =>
    obtain ⟨m, xs⟩ := mx
    simp only [hs, Option.bind_some] at h
    split at h
    · split at h
      · cases h; exact Grow.refl _
      · split at h
        · cases h; exact Grow.new _ _ _ _
        · cases h
    · rename_i a n code
      split at h
      · cases h; exact Grow.refl _
      · split at h
        · split at h
          · cases hk : H.blk a.block with
            | none => simp [hk] at h
            | some k =>
              simp only [hk, Option.bind_some] at h
              split at h
              · cases h; exact (Grow.kill _ _).trans (Grow.new _ _ _ _)
              · cases h
          · split at h
            · cases hl : H.loadN a 0 (n * sz) with
              | none => simp [hl] at h
              | some o => simp [hl] at h; obtain ⟨_, rfl⟩ := h; exact Grow.new _ _ _ _
            · cases h
        · cases h
    · cases h
theorem sCopy_grow {H H' : Heap} {sz : Nat} {x y v : Value} (h : sCopy H sz x y = some (v, H')) : Grow H H' := by
  unfold sCopy at h
  cases hs : srcCells H sz y with
  | none => simp [hs] at h
  | some mx =>
    obtain ⟨m, xs⟩ := mx
    simp only [hs, Option.bind_some] at h
    split at h
    · cases h; exact Grow.refl _
    · rename_i a d code
      cases hst : Heap.storeN a 0 (xs.take (min m d * sz)) H with
      | none => simp [hst] at h
      | some H1 => simp [hst] at h; obtain ⟨_, rfl⟩ := h; exact storeN_grow hst
    · cases h
theorem sStore_grow {H H' : Heap} {n : Nat} {x v : Value} (h : sStore H n x v = some H') : Grow H H' := by
  unfold sStore at h
  split at h
  · split at h
    · exact storeN_grow h
    · cases h
  · cases h
theorem map_grow {H H' : Heap} {o : Option Value} {v : Value} (h : o.map (·, H) = some (v, H')) : Grow H H' := by
  cases o <;> simp at h; rw [h.2]; exact Grow.refl _
theorem step_grow {H H' : Heap} {t : Tm} {op : LOp} {v : Value} (h : step H t op = some (v, H')) : Grow H H' := by
  cases op <;> simp only [step] at h <;> first
    | (cases h; exact Grow.refl _)
    | (cases h; exact Grow.new _ _ _ _)
    | exact map_grow h
    | exact sMake_grow h
    | exact sToBytes_grow h
    | exact sAppend_grow h
    | exact sCopy_grow h
    | (cases h; done)
    | skip
  case pick => split at h <;> first | (cases h; exact Grow.refl _) | cases h
  case box => split at h <;> first | (cases h; exact Grow.new _ _ _ _) | cases h
  case build z ps => cases hf : fillA z (evParts t ps) <;> simp [hf] at h; rw [h.2]; exact Grow.refl _
  case buildSlice e sz len z ps =>
    cases hf : fillA (zerosA z (len * sz)) (evParts t ps) with
    | none => simp [hf] at h
    | some out => simp only [hf, Option.bind_some] at h; split at h <;> first | (cases h; exact Grow.new _ _ _ _) | cases h
  case store n x y =>
    cases hf : sStore H n (ev t x) (ev t y) with
    | none => simp [hf] at h
    | some H1 => simp [hf] at h; obtain ⟨_, rfl⟩ := h; exact sStore_grow hf
  case isNil => split at h <;> first | (rw [map_pair h]; exact Grow.refl _) | cases h
  case eqB => split at h <;> first | (cases h; exact Grow.refl _) | cases h
  case func => split at h <;> first | (cases h; exact Grow.refl _) | cases h
  case lenS => split at h <;> first | (cases h; exact Grow.refl _) | cases h
  case len => split at h <;> first | (cases h; exact Grow.refl _) | cases h
  case minmax => split at h <;> first | exact map_grow h | cases h
  case mapUpdate => obtain ⟨m, cs, rfl⟩ := sMapUpdate_put (map_snd h); exact Grow.put _ _ _
  case mapEntry => obtain ⟨m, cs, rfl⟩ := sMapEntry_put h; exact Grow.put _ _ _
  case entryStore => obtain ⟨m, cs, rfl⟩ := sEntryStore_put (map_snd h); exact Grow.put _ _ _
  case delete => rcases sDelete_put (map_snd h) with rfl | ⟨m, cs, rfl⟩; · exact Grow.refl _
                 · exact Grow.put _ _ _
  case rangeM => obtain ⟨cs, rfl⟩ := sRange_new h; exact Grow.new _ _ _ _
  case nextM => rcases sNext_put h with rfl | ⟨m, cs, rfl⟩; · exact Grow.refl _
                · exact Grow.put _ _ _
  case clear => rcases sClear_store (map_snd h) with rfl | ⟨a, vs, hs⟩; · exact Grow.refl _
                · exact storeN_grow hs
theorem do_grow {P : Program} {t : Tm} {H H' : Heap} {op : LOp} {v : Value} (h : Do P t H op v H') : Grow H H' := by
  unfold Do at h
  split at h
  · exact h.grow
  · obtain ⟨_, _, _, _, _, h⟩ := h; exact h.grow
  · obtain ⟨_, _, _, _, _, _, _, _, _, h⟩ := h; exact h.grow
  · rw [h.1]; exact Grow.refl _
  · exact step_grow h

/-! ### outcomes -/
theorem wpO_wit {P : Program} {Q : Tm → Heap → Prop} : ∀ {l : List LIns} {t : Tm} {H : Heap}, wpO P l Q t H → ∃ t' H', Grow H H' ∧ Q t' H' ∧ wpO P l (fun t1 H1 => t1 = t' ∧ H1 = H') t H
  | [], t, H, h => ⟨t, H, Grow.refl _, h, rfl, rfl⟩
  | i :: l, t, H, h => by
    simp only [wpO] at h ⊢
    split at h
    · rename_i hg
      obtain ⟨v, H1, h1, h2⟩ := h
      obtain ⟨t', H', g, hq, hw⟩ := wpO_wit h2
      exact ⟨t', H', (do_grow h1).trans g, hq, by rw [if_pos hg]; exact ⟨v, H1, h1, hw⟩⟩
    · rename_i hg
      obtain ⟨t', H', g, hq, hw⟩ := wpO_wit h
      exact ⟨t', H', g, hq, by rw [if_neg hg]; exact hw⟩
theorem wpD_wit {P : Program} {Q : Tm → Heap → Prop} : ∀ {l : List DIns} {H : Heap} {hs : List Heap} {pend : List Pend} {t : Tm}, wpD P l (H :: hs) pend Q t →
    ∃ t' H', Grow H H' ∧ Q t' H' ∧ wpD P l (H :: hs) pend (fun t1 H1 => t1 = t' ∧ H1 = H') t
  | [], H, hs, pend, t, h => ⟨t, H, Grow.refl _, h, rfl, rfl⟩
  | i :: l, H, hs, pend, t, h => by
    simp only [wpD] at h ⊢
    split at h
    · rename_i hg
      cases hk : i.kind <;> simp only [hk] at h ⊢
      · obtain ⟨v, h1, h2⟩ := h
        obtain ⟨t', H', g, hq, hw⟩ := wpD_wit h2
        exact ⟨t', H', g, hq, by rw [if_pos hg]; exact ⟨v, h1, hw⟩⟩
      · obtain ⟨v, h1, h2, h3⟩ := h
        obtain ⟨t', H', g, hq, hw⟩ := wpD_wit h3
        exact ⟨t', H', g, hq, by rw [if_pos hg]; exact ⟨v, h1, h2, hw⟩⟩
      · obtain ⟨v, H1, h1, h2, h3⟩ := h
        obtain ⟨t', H', g, hq, hw⟩ := wpD_wit h3
        exact ⟨t', H', (do_grow h1).trans g, hq, by rw [if_pos hg]; exact ⟨v, H1, h1, h2, hw⟩⟩
    · rename_i hg
      cases hk : i.kind <;> simp only [hk] at h ⊢
      · obtain ⟨t', H', g, hq, hw⟩ := wpD_wit h
        exact ⟨t', H', g, hq, by rw [if_neg hg]; exact hw⟩
      · obtain ⟨t', H', g, hq, hw⟩ := wpD_wit h
        exact ⟨t', H', g, hq, by rw [if_neg hg]; exact hw⟩
      · obtain ⟨t', H', g, hq, hw⟩ := wpD_wit h.2
        exact ⟨t', H', g, hq, by rw [if_neg hg]; exact ⟨h.1, hw⟩⟩
def Only (e : Exit) (t : Tm) (H : Heap) : Post := fun e1 t1 H1 => e1 = e ∧ t1 = t ∧ H1 = H
theorem seq_only {P : Program} {a b : LCode} {e : Exit} {t t1 : Tm} {H H1 : Heap} (he : e ≠ .normal) (hw : wpA P a (Only e t1 H1) t H) : wpA P (.seq a b) (Only e t1 H1) t H := by
  show wpA P a (thenA (wpA P b (Only e t1 H1)) (Only e t1 H1)) t H
  refine wpA_mono ?_ hw
  rintro e3 t3 H3 ⟨rfl, rfl, rfl⟩
  cases e3 <;> first | exact absurd rfl he | exact ⟨rfl, rfl, rfl⟩
theorem seq_normal {P : Program} {a b : LCode} {Q : Post} {t t1 : Tm} {H H1 : Heap} (hw : wpA P a (Only .normal t1 H1) t H) (h2 : wpA P b Q t1 H1) : wpA P (.seq a b) Q t H := by
  show wpA P a (thenA (wpA P b Q) Q) t H
  refine wpA_mono ?_ hw
  rintro e3 t3 H3 ⟨rfl, rfl, rfl⟩
  exact h2
theorem block_only {P : Program} {c : LCode} {id : Nat} {e : Exit} {t t1 : Tm} {H H1 : Heap} (he : e ≠ .exit id) (hw : wpA P c (Only e t1 H1) t H) : wpA P (.block id c) (Only e t1 H1) t H := by
  show wpA P c (blockA id (Only e t1 H1)) t H
  refine wpA_mono ?_ hw
  rintro e3 t3 H3 ⟨rfl, rfl, rfl⟩
  cases e3 <;> simp only [blockA] <;> (try exact ⟨rfl, rfl, rfl⟩)
  split
  · rename_i h; exact absurd (by rw [h]) he
  · exact ⟨rfl, rfl, rfl⟩
theorem block_exit {P : Program} {c : LCode} {id : Nat} {t t1 : Tm} {H H1 : Heap} (hw : wpA P c (Only (.exit id) t1 H1) t H) : wpA P (.block id c) (Only .normal t1 H1) t H := by
  show wpA P c (blockA id (Only .normal t1 H1)) t H
  refine wpA_mono ?_ hw
  rintro e3 t3 H3 ⟨rfl, rfl, rfl⟩
  simp only [blockA, if_true]
  exact ⟨rfl, rfl, rfl⟩
theorem exit_cases (e : Exit) : e = .normal ∨ e ≠ .normal := by cases e <;> simp
theorem exit_id (e : Exit) (id : Nat) : e = .exit id ∨ e ≠ .exit id := by
  cases e <;> simp
  exact Nat.decEq _ _ |>.em
theorem iter_only {P : Program} {c : LCode} {k : Nat} {e : Exit} {t t1 : Tm} {H H1 : Heap} (he : e ≠ .normal) (hw : wpA P c (Only e t1 H1) t H) : iterA (wpA P c) (Only e t1 H1) (k + 1) t H := by
  show wpA P c (thenA (iterA (wpA P c) (Only e t1 H1) k) (Only e t1 H1)) t H
  refine wpA_mono ?_ hw
  rintro e3 t3 H3 ⟨rfl, rfl, rfl⟩
  cases e3 <;> first | exact absurd rfl he | exact ⟨rfl, rfl, rfl⟩
theorem iter_normal {P : Program} {c : LCode} {k : Nat} {Q : Post} {t t1 : Tm} {H H1 : Heap} (hw : wpA P c (Only .normal t1 H1) t H) (h2 : iterA (wpA P c) Q k t1 H1) : iterA (wpA P c) Q (k + 1) t H := by
  show wpA P c (thenA (iterA (wpA P c) Q k) Q) t H
  refine wpA_mono ?_ hw
  rintro e3 t3 H3 ⟨rfl, rfl, rfl⟩
  exact h2
theorem thenA_other {N : Tm → Heap → Prop} {Q : Post} {e : Exit} {t : Tm} {H : Heap} (he : e ≠ .normal) (h : thenA N Q e t H) : Q e t H := by
  cases e <;> first | exact absurd rfl he | exact h
theorem blockA_other {id : Nat} {Q : Post} {e : Exit} {t : Tm} {H : Heap} (he : e ≠ .exit id) (h : blockA id Q e t H) : Q e t H := by
  cases e <;> simp only [blockA] at h <;> (try exact h)
  split at h
  · rename_i h1; exact absurd (by rw [h1]) he
  · exact h
def noAlts : LCode → Bool
  | .alts _ => false
  | .tree _ => false
  | .seq a b => noAlts a && noAlts b
  | .cond _ a b => noAlts a && noAlts b
  | .block _ c => noAlts c
  | .loop c => noAlts c
  | _ => true
theorem wpA_wit {P : Program} {c : LCode} : ∀ (hno : noAlts c = true) {Q : Post} {t : Tm} {H : Heap}, wpA P c Q t H → ∃ e t' H', Grow H H' ∧ Q e t' H' ∧ wpA P c (Only e t' H') t H := by
  induction c with
  | skip => intro _ Q t H h; exact ⟨.normal, t, H, Grow.refl _, h, rfl, rfl, rfl⟩
  | region l =>
    intro _ Q t H h
    obtain ⟨t', H', g, hq, hw⟩ := wpO_wit h
    exact ⟨.normal, t', H', g, hq, wpO_mono (fun _ _ h => ⟨rfl, h⟩) hw⟩
  | alts ls => intro hno; cases hno
  | tree d => intro hno; cases hno
  | draw l =>
    intro _ Q t H h
    obtain ⟨t', H', g, hq, hw⟩ := wpD_wit h
    exact ⟨.normal, t', H', g, hq, wpD_mono (fun _ _ h => ⟨rfl, h⟩) hw⟩
  | seq a b iha ihb =>
    intro hno Q t H h
    simp only [noAlts, Bool.and_eq_true] at hno
    obtain ⟨e, t1, H1, g, hq, hw⟩ := iha hno.1 h
    rcases exit_cases e with rfl | he
    · obtain ⟨e2, t2, H2, g2, hq2, hw2⟩ := ihb hno.2 hq
      exact ⟨e2, t2, H2, g.trans g2, hq2, seq_normal hw hw2⟩
    · exact ⟨e, t1, H1, g, thenA_other he hq, seq_only he hw⟩
  | cond x a b iha ihb =>
    intro hno Q t H h
    simp only [noAlts, Bool.and_eq_true] at hno
    simp only [wpA] at h
    split at h <;> rename_i hx
    · obtain ⟨e, t', H', g, hq, hw⟩ := iha hno.1 h; exact ⟨e, t', H', g, hq, by simp only [wpA, hx]; exact hw⟩
    · obtain ⟨e, t', H', g, hq, hw⟩ := ihb hno.2 h; exact ⟨e, t', H', g, hq, by simp only [wpA, hx]; exact hw⟩
    · exact h.elim
  | block id c ih =>
    intro hno Q t H h
    obtain ⟨e, t', H', g, hq, hw⟩ := ih hno h
    rcases exit_id e id with rfl | he
    · simp only [blockA, if_true] at hq
      exact ⟨.normal, t', H', g, hq, block_exit hw⟩
    · exact ⟨e, t', H', g, blockA_other he hq, block_only he hw⟩
  | loop c ih =>
    intro hno Q t H h
    obtain ⟨k, hk⟩ := h
    have key : ∀ k t H, iterA (wpA P c) Q k t H → ∃ e t' H', Grow H H' ∧ Q e t' H' ∧ iterA (wpA P c) (Only e t' H') k t H := by
      intro k
      induction k with
      | zero => intro t H h; exact h.elim
      | succ k ihk =>
        intro t H h
        obtain ⟨e, t1, H1, g, hq, hw⟩ := ih hno h
        rcases exit_cases e with rfl | he
        · obtain ⟨e2, t2, H2, g2, hq2, hw2⟩ := ihk _ _ hq
          exact ⟨e2, t2, H2, g.trans g2, hq2, iter_normal hw hw2⟩
        · exact ⟨e, t1, H1, g, thenA_other he hq, iter_only he hw⟩
    obtain ⟨e, t', H', g, hq, hw⟩ := key k t H hk
    exact ⟨e, t', H', g, hq, k, hw⟩
  | exit id => intro _ Q t H h; exact ⟨_, t, H, Grow.refl _, h, rfl, rfl, rfl⟩
  | ret => intro _ Q t H h; exact ⟨_, t, H, Grow.refl _, h, rfl, rfl, rfl⟩
theorem light_noAlts {P : Program} {n : Nat} : ∀ {c : Code} {lc : LCode}, lightCode P n c = some lc → noAlts lc = true := by
  intro c
  induction c with
  | skip => intro lc h; cases h; rfl
  | region id ops draw =>
    intro lc h
    unfold lightCode at h
    split at h
    · split at h
      · split at h
        · cases h; rfl
        · cases h
      · cases h; rfl
    · cases h
  | seq x y ihx ihy =>
    intro lc h
    unfold lightCode at h
    split at h
    · rename_i lx hx
      split at h
      · rename_i ly hy
        cases h
        simp only [noAlts, ihx hx, ihy hy, Bool.and_self]
      · cases h
    · cases h
  | cond c x y ihx ihy =>
    intro lc h
    unfold lightCode at h
    split at h
    · split at h
      · rename_i lx hx
        split at h
        · rename_i ly hy
          cases h
          simp only [noAlts, ihx hx, ihy hy, Bool.and_self]
        · cases h
      · cases h
    · cases h
  | block id c ih =>
    intro lc h
    unfold lightCode at h
    split at h
    · rename_i lx hx; cases h; simp only [noAlts]; exact ih hx
    · cases h
  | loop c ih =>
    intro lc h
    unfold lightCode at h
    split at h
    · rename_i lx hx; cases h; simp only [noAlts]; exact ih hx
    · cases h
  | exit id => intro lc h; cases h; rfl
  | ret => intro lc h; cases h; rfl
  | rangeFunc _ _ _ _ _ _ => intro lc h; cases h
  | scope _ _ => intro lc h; cases h
  | label _ => intro lc h; cases h
  | goto _ => intro lc h; cases h
  | refuse _ => intro lc h; cases h
/-- A contract out of a body. -/
theorem T_ex {P : Program} (hm : P.follows .mixedOrders = true) {f : FuncId} {n : Nat} {lc : LCode} {lr : List LRes} {args : List Value} (hL : Light P f args.length n lc lr) {H : Heap} {Q : Value → Heap → Prop}
    (h : wpA P lc (EndA Q lr) (initT args) H) : ∃ v H', T P f args H v H' ∧ Q v H' := by
  obtain ⟨e, t', H', g, ⟨he, vs, hvs, hq⟩, hw⟩ := wpA_wit (by obtain ⟨_, _, _, _, _, hc, _⟩ := hL; exact light_noAlts hc) h
  refine ⟨packV vs, H', ⟨g.base, g.next, g.wf, fun ρ w args' hR hargs => ?_⟩, hq⟩
  have hw' : wpA P lc (EndA (fun v' H2 => v' = packV vs ∧ H2 = H') lr) (initT args) H := by
    refine wpA_mono ?_ hw
    rintro e3 t3 H3 ⟨rfl, rfl, rfl⟩
    exact ⟨he, vs, hvs, rfl, rfl⟩
  refine (calls_of_wpA hm hL hw' hR hargs).mono ?_
  rintro e w' ⟨v1, v', H1, ρ', ⟨rfl, rfl⟩, he, _, hle, hr, hR'⟩
  exact ⟨ρ', v', he, hle, hr, hR'⟩
/-- The last heap forgets blocks. -/
def Heap.kills (H : Heap) (bs : List Nat) : Heap := bs.foldl Heap.kill H
theorem kills_base : ∀ (bs : List Nat) (H : Heap), (H.kills bs).base = H.base
  | [], H => rfl
  | b :: bs, H => kills_base bs (H.kill b)
theorem kills_next : ∀ (bs : List Nat) (H : Heap), (H.kills bs).next = H.next
  | [], H => rfl
  | b :: bs, H => kills_next bs (H.kill b)
theorem kills_blk : ∀ (bs : List Nat) (H : Heap) (c : Nat), (H.kills bs).blk c = if c ∈ bs then none else H.blk c
  | [], H, c => by simp [Heap.kills]
  | b :: bs, H, c => by
    show ((H.kill b).kills bs).blk c = _
    rw [kills_blk bs (H.kill b) c]
    by_cases h1 : c ∈ bs
    · simp [h1]
    · simp only [h1, if_false, List.mem_cons, or_false]
      rfl
theorem kills_cx : ∀ (bs : List Nat) (H : Heap) (ρ : Nat → Nat × Nat), (H.kills bs).cx ρ = H.cx ρ
  | [], H, ρ => rfl
  | b :: bs, H, ρ => (kills_cx bs (H.kill b) ρ).trans rfl
theorem kills_rep : ∀ (bs : List Nat) {H : Heap} {ρ : Nat → Nat × Nat} {w : World}, Rep H ρ w → Rep (H.kills bs) ρ w
  | [], H, ρ, w, h => h
  | b :: bs, H, ρ, w, h => kills_rep bs (h.kill b)
/-- A contract out of a body with regions of many orders: all of them end so, but for blocks that are forgotten. -/
theorem T_all {P : Program} (hm : P.follows .mixedOrders = true) {f : FuncId} {n : Nat} {lc : LCode} {lr : List LRes} {args : List Value} (hL : LightX P f args.length n lc lr) {H H' : Heap} {v : Value}
    (hb : H'.base = H.base) (hn : H.next ≤ H'.next) (hw : H.WF → H'.WF) (h : wpA P lc (EndA (fun v1 H1 => v1 = v ∧ ∃ bs, H1.kills bs = H') lr) (initT args) H) : T P f args H v H' := by
  refine ⟨hb, hn, hw, fun ρ w args' hR hargs => ?_⟩
  refine (calls_of_wpAX hm hL h hR hargs).mono ?_
  rintro e w' ⟨v1, v', H1, ρ', ⟨rfl, bs, rfl⟩, he, _, hle, hr, hR'⟩
  exact ⟨ρ', v', he, by rw [kills_cx]; exact hle, by rw [kills_cx]; exact hr, kills_rep bs hR'⟩
end Go.Ot
