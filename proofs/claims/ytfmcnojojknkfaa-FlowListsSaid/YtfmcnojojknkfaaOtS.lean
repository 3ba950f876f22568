/-
  Part S: light code out of the machine's code; contracts out of bodies.
-/
import Derived.Test.YtfmcnojojknkfaaOtRt
set_option linter.unusedVariables false
set_option linter.unusedSimpArgs false
namespace Go.Ot
open Go.RowKit

def lightList (P : Program) (n : Nat) (ops : Array Oper) : List Oper → Option (List LIns)
  | [] => some []
  | o :: rest => match lightIns P n ops o with
    | some i => match lightList P n ops rest with
      | some r => some (i :: r)
      | none => none
    | none => none
theorem lightList_all2 {P : Program} {n : Nat} {ops : Array Oper} : ∀ {l : List Oper} {li : List LIns}, lightList P n ops l = some li → All2 (fun o i => lightIns P n ops o = some i) l li
  | [], li, h => by cases h; exact .nil
  | o :: rest, li, h => by
    unfold lightList at h
    split at h
    · rename_i i hi
      split at h
      · rename_i r hr
        cases h
        exact .cons hi (lightList_all2 hr)
      · cases h
    · cases h
def lightCode (P : Program) (n : Nat) : Code → Option LCode
  | .skip => some .skip
  | .region _ ops draw => match lightList P n ops ops.toList with
    | some lis => if draw then (if drawOk ops.toList lis (masks ops.toList []) then some (.draw (mkDs lis (masks ops.toList []))) else none) else some (.region lis)
    | none => none
  | .seq a b => match lightCode P n a with
    | some x => match lightCode P n b with
      | some y => some (.seq x y)
      | none => none
    | none => none
  | .cond c a b => if opndOk n c then match lightCode P n a with
    | some x => match lightCode P n b with
      | some y => some (.cond c x y)
      | none => none
    | none => none else none
  | .block id c => match lightCode P n c with
    | some x => some (.block id x)
    | none => none
  | .loop c => match lightCode P n c with
    | some x => some (.loop x)
    | none => none
  | .exit id => some (.exit id)
  | .ret => some .ret
  | _ => none

section
variable {P : Program} {ds : List Deferred} {n : Nat} {c0 : Cx} {base0 : Base}
theorem St.drawn {t : Tm} {H : Heap} {a : Act} {w : World} (h : St ds n c0 base0 t H a w) : St ds n c0 base0 t H a { w with drawn := w.drawn + 1 } := by
  obtain ⟨h1, h2, ρ, hR, h3⟩ := h
  exact ⟨h1, h2, ρ, hR.drawn, h3⟩
theorem region_sound (hm : P.follows .mixedOrders = true) {id : Nat} {ops : Array Oper} {draw : Bool} {lc : LCode} (hl : lightCode P n (.region id ops draw) = some lc) {Qa : Post} {t : Tm} {H : Heap} {a : Act} {w : World}
    (hs : St ds n c0 base0 t H a w) (h : wpA P lc Qa t H) : (Code.region id ops draw).wp P (lift ds n c0 base0 Qa) a w := by
  unfold lightCode at hl
  split at hl
  · rename_i lis hlis
    have hall := lightList_all2 hlis
    split at hl
    · rename_i hdraw
      subst hdraw
      split at hl
      · rename_i hok
        cases hl
        simp only [wpA] at h
        have hlen : lis.length = ops.toList.length := hall.length.symm
        have hd := draws_of hlen rfl hok
        obtain ⟨Hf, m, vs, q1, q2, q3, q4, q5⟩ := trace_of _ H [] [] t mkDs_pure h
        rw [mkDs_length] at q5
        refine wp_region_any hm ?_
        refine wpAny_along (P := P) (ds := ds) (n := n) (c0 := c0) (base0 := base0) (lis := lis) (ms := masks ops.toList []) (Hf := Hf) (m := m) (vs := vs) (t0 := t) (by simpa using hlen) hd hall (by simpa using q3)
          (Q := lift ds n c0 base0 Qa) (Qa := Qa .normal) (fun t H a w hs hq => ⟨t, H, hs, hq⟩) q5 ops.size (Array.replicate ops.size false) a _ ⟨by simp, ?_, ?_⟩ ?_
        · intro i o ho hL
          have hi : i < ops.size := (Array.getElem?_eq_some_iff.1 ho).1
          unfold bl at hL
          simp [hi] at hL
        · have hbl : ∀ j, bl (Array.replicate ops.size false) j = false := by
            intro j; unfold bl
            by_cases hj : j < ops.size <;> simp [hj]
          have h0 : hcount lis (bl (Array.replicate ops.size false)) = 0 := by
            unfold hcount
            rw [List.countP_eq_zero]
            intro j _; rw [hbl]; simp
          have e0 : Hf 0 = H := by rw [q1 0 (Nat.zero_le _)]; simp
          refine ⟨t, ?_, ?_, fun s _ => rfl⟩
          · rw [h0, e0]; exact hs.drawn
          · intro s j lj v _ _ _ hL; rw [hbl] at hL; cases hL
        · exact Nat.le_trans List.countP_le_length (by simp)
      · cases hl
    · rename_i hdraw
      cases hl
      have : draw = false := by simpa using hdraw
      subst this
      exact wp_region_list (wpO_sound (fun t H a w hs hq => ⟨t, H, hs, hq⟩) _ _ hall t H a w hs h)
  · cases hl
theorem wpA_sound (hm : P.follows .mixedOrders = true) : ∀ {c : Code} {lc : LCode} {Qa : Post} {t : Tm} {H : Heap} {a : Act} {w : World}, lightCode P n c = some lc → St ds n c0 base0 t H a w → wpA P lc Qa t H → c.wp P (lift ds n c0 base0 Qa) a w := by
  intro c
  induction c with
  | skip => intro lc Qa t H a w hl hs h; cases hl; exact wp_skip ⟨t, H, hs, h⟩
  | region id ops draw => intro lc Qa t H a w hl hs h; exact region_sound hm hl hs h
  | seq x y ihx ihy =>
    intro lc Qa t H a w hl hs h
    unfold lightCode at hl
    split at hl
    · rename_i lx hx
      split at hl
      · rename_i ly hy
        cases hl
        refine wp_seq (wp_mono (ihx hx hs h) ?_)
        rintro e a' w' ⟨t', H', hs', hq⟩
        cases e <;> simp only [thenA, Exit.then] at hq ⊢
        · exact ihy hy hs' hq
        all_goals exact ⟨t', H', hs', hq⟩
      · cases hl
    · cases hl
  | cond c x y ihx ihy =>
    intro lc Qa t H a w hl hs h
    unfold lightCode at hl
    split at hl
    · rename_i hc
      split at hl
      · rename_i lx hx
        split at hl
        · rename_i ly hy
          cases hl
          simp only [wpA] at h
          obtain ⟨hdef, hsz, ρ, hR, hle, hb, ht⟩ := hs
          have hr := ht.ev (x := c) (by rw [hsz]; exact hc)
          have hs' : St ds n c0 base0 t H a w := ⟨hdef, hsz, ρ, hR, hle, hb, ht⟩
          split at h
          · rename_i hv
            exact wp_cond_true ((r3_bool_iff hr true).2 hv) (ihx hx hs' h)
          · rename_i hv
            exact wp_cond_false ((r3_bool_iff hr false).2 hv) (ihy hy hs' h)
          · exact h.elim
        · cases hl
      · cases hl
    · cases hl
  | block id c ih =>
    intro lc Qa t H a w hl hs h
    unfold lightCode at hl
    split at hl
    · rename_i lx hx
      cases hl
      refine wp_block (wp_mono (ih hx hs h) ?_)
      rintro e a' w' ⟨t', H', hs', hq⟩
      cases e with
      | exit id' =>
        simp only [blockA, Exit.inBlock] at hq ⊢
        split
        · rename_i he; rw [if_pos he] at hq; exact ⟨t', H', hs', hq⟩
        · rename_i he; rw [if_neg he] at hq; exact ⟨t', H', hs', hq⟩
      | _ => exact ⟨t', H', hs', hq⟩
    · cases hl
  | loop c ih =>
    intro lc Qa t H a w hl hs h
    unfold lightCode at hl
    split at hl
    · rename_i lx hx
      cases hl
      obtain ⟨k, hk⟩ := h
      refine wp_loop_at (fun k a w => ∃ t H, St ds n c0 base0 t H a w ∧ iterA (wpA P lx) Qa k t H) (n := k) ⟨t, H, hs, hk⟩ ?_
      rintro k a w ⟨t, H, hs, hk⟩
      cases k with
      | zero => exact hk.elim
      | succ k =>
        refine wp_mono (ih hx hs hk) ?_
        rintro e a' w' ⟨t', H', hs', hq⟩
        cases e <;> simp only [thenA, Exit.then] at hq ⊢
        · exact ⟨k, Nat.lt_succ_self k, t', H', hs', hq⟩
        all_goals exact ⟨t', H', hs', hq⟩
    · cases hl
  | exit id => intro lc Qa t H a w hl hs h; cases hl; exact wp_exit ⟨t, H, hs, h⟩
  | ret => intro lc Qa t H a w hl hs h; cases hl; exact wp_ret ⟨t, H, hs, h⟩
  | rangeFunc _ _ _ _ _ _ => intro lc Qa t H a w hl; cases hl
  | scope _ _ => intro lc Qa t H a w hl; cases hl
  | label _ => intro lc Qa t H a w hl; cases hl
  | goto _ => intro lc Qa t H a w hl; cases hl
  | refuse _ => intro lc Qa t H a w hl; cases hl
/-- A drawn region in the order of its text. -/
theorem drawn_sound (hm : P.follows .mixedOrders = true) {ops : Array Oper} {lis : List LIns} (hall : All2 (fun o i => lightIns P n ops o = some i) ops.toList lis) (hok : drawOk ops.toList lis (masks ops.toList []) = true) {Qa : Post} {t : Tm} {H : Heap} {a : Act} {w : World}
    (hs : St ds n c0 base0 t H a w) (h : wpD P (mkDs lis (masks ops.toList [])) [H] [] (Qa .normal) t) : wpAny P .any ops (lift ds n c0 base0 Qa) ops.size (Array.replicate ops.size false) a { w with drawn := w.drawn + 1 } := by
  have hlen : lis.length = ops.toList.length := hall.length.symm
  have hd := draws_of hlen rfl hok
  obtain ⟨Hf, m, vs, q1, q2, q3, q4, q5⟩ := trace_of _ H [] [] t mkDs_pure h
  rw [mkDs_length] at q5
  refine wpAny_along (P := P) (ds := ds) (n := n) (c0 := c0) (base0 := base0) (lis := lis) (ms := masks ops.toList []) (Hf := Hf) (m := m) (vs := vs) (t0 := t) (by simpa using hlen) hd hall (by simpa using q3)
    (Q := lift ds n c0 base0 Qa) (Qa := Qa .normal) (fun t H a w hs hq => ⟨t, H, hs, hq⟩) q5 ops.size (Array.replicate ops.size false) a _ ⟨by simp, ?_, ?_⟩ ?_
  · intro i o ho hL
    have hi : i < ops.size := (Array.getElem?_eq_some_iff.1 ho).1
    unfold bl at hL
    simp [hi] at hL
  · have hbl : ∀ j, bl (Array.replicate ops.size false) j = false := by
      intro j; unfold bl
      by_cases hj : j < ops.size <;> simp [hj]
    have h0 : hcount lis (bl (Array.replicate ops.size false)) = 0 := by
      unfold hcount
      rw [List.countP_eq_zero]
      intro j _; rw [hbl]; simp
    have e0 : Hf 0 = H := by rw [q1 0 (Nat.zero_le _)]; simp
    refine ⟨t, ?_, ?_, fun s _ => rfl⟩
    · rw [h0, e0]; exact hs.drawn
    · intro s j lj v _ _ _ hL; rw [hbl] at hL; cases hL
  · exact Nat.le_trans List.countP_le_length (by simp)
def altL (P : Program) (n : Nat) (ops : Array Oper) : List (List Nat × List Nat) → Option (List (List DIns))
  | [] => some []
  | q :: r => match lightList P n (mkOps ops q.2 q.1) (mkOps ops q.2 q.1).toList with
    | some lis => if drawOk (mkOps ops q.2 q.1).toList lis (masks (mkOps ops q.2 q.1).toList []) then match altL P n ops r with
      | some ls => some (mkDs lis (masks (mkOps ops q.2 q.1).toList []) :: ls)
      | none => none else none
    | none => none
def ordersOf (ops : Array Oper) (lis : List LIns) : List (List Nat × List Nat) :=
  (exts (masks ops.toList []) (heavies lis).length (heavies lis)).map fun o => (o, listing (ops.toList.map edgesOf) (heavyAt lis) ops.size [] o)
def lightAlts (P : Program) (n : Nat) (ops : Array Oper) (lis : List LIns) : Option LCode :=
  if ordersOk ops lis (masks ops.toList []) (ordersOf ops lis) then match altL P n ops (ordersOf ops lis) with
    | some ls => some (.alts ls)
    | none => none else none
theorem altL_mem {P : Program} {n : Nat} {ops : Array Oper} : ∀ {os : List (List Nat × List Nat)} {ls : List (List DIns)}, altL P n ops os = some ls → ∀ q ∈ os, ∃ lis, lightList P n (mkOps ops q.2 q.1) (mkOps ops q.2 q.1).toList = some lis ∧
    drawOk (mkOps ops q.2 q.1).toList lis (masks (mkOps ops q.2 q.1).toList []) = true ∧ mkDs lis (masks (mkOps ops q.2 q.1).toList []) ∈ ls
  | [], ls, h, q, hq => by cases hq
  | q0 :: r, ls, h, q, hq => by
    unfold altL at h
    split at h
    · rename_i lis hlis
      split at h
      · rename_i hok
        split at h
        · rename_i ls' hls'
          cases h
          rcases List.mem_cons.1 hq with rfl | hq
          · exact ⟨lis, hlis, hok, by simp⟩
          · obtain ⟨l, h1, h2, h3⟩ := altL_mem hls' q hq
            exact ⟨l, h1, h2, by simp [h3]⟩
        · cases h
      · cases h
    · cases h
theorem alts_sound (hm : P.follows .mixedOrders = true) {id : Nat} {ops : Array Oper} {lis : List LIns} {lc : LCode} (hl : lightAlts P n ops lis = some lc) {Qa : Post} {t : Tm} {H : Heap} {a : Act} {w : World}
    (hs : St ds n c0 base0 t H a w) (h : wpA P lc Qa t H) : (Code.region id ops true).wp P (lift ds n c0 base0 Qa) a w := by
  unfold lightAlts at hl
  split at hl
  · rename_i hok
    split at hl
    · rename_i ls hls
      cases hl
      simp only [wpA] at h
      have hA := alts_of (P := P) rfl hok
      have hne : ∃ q, q ∈ ordersOf ops lis := by
        simp only [ordersOk, Bool.and_eq_true, Bool.not_eq_true'] at hok
        have := hok.2
        cases ho : ordersOf ops lis with
        | nil => rw [ho] at this; cases this
        | cons q r => exact ⟨q, by simp⟩
      refine wp_region_any hm ?_
      have hbl : ∀ j, bl (Array.replicate ops.size false) j = false := by
        intro j; unfold bl
        by_cases hj : j < ops.size <;> simp [hj]
      refine wpAny_alts hA ops.size (ordersOf ops lis) [] (Array.replicate ops.size false) (fun _ => Array.replicate ops.size false) a _ hne (fun q hq => ⟨hq, List.nil_prefix⟩) (fun q hq _ => hq) (by simp) (fun q hq => ⟨by simp, fun i hi => by rw [hbl, hbl]⟩) (fun i hi _ => by rw [hbl]; simp) (fun i o ho hL => by rw [hbl] at hL; cases hL)
        (Nat.le_trans List.countP_le_length (by simp)) (fun q hq => ?_)
      obtain ⟨lis', h1, h2, h3⟩ := altL_mem hls q hq
      have := drawn_sound hm (lightList_all2 h1) h2 hs (h _ h3)
      rw [(hA.alt q hq).size] at this
      exact this
    · cases hl
  · cases hl
/-- A region told by a tree of orders. -/
def lightTree (ops : Array Oper) (lis : List LIns) : Option LCode :=
  if treeOk ops.toList lis (masks ops.toList []) then some (.tree (mkDT lis (masks ops.toList []) (ops.size + 1) [])) else none
theorem tree_sound (hm : P.follows .mixedOrders = true) {id : Nat} {ops : Array Oper} {lis : List LIns} {lc : LCode} (hall : All2 (fun o i => lightIns P n ops o = some i) ops.toList lis) (hl : lightTree ops lis = some lc) {Qa : Post} {t : Tm} {H : Heap} {a : Act} {w : World}
    (hs : St ds n c0 base0 t H a w) (h : wpA P lc Qa t H) : (Code.region id ops true).wp P (lift ds n c0 base0 Qa) a w := by
  unfold lightTree at hl
  split at hl
  · rename_i hok
    cases hl
    simp only [wpA] at h
    have hlen : lis.length = ops.toList.length := hall.length.symm
    have T := trees_of hlen rfl hok
    obtain ⟨tt, N, keep⟩ := node_enter T h (fun hne => absurd rfl hne)
    have hbl : ∀ j, bl (Array.replicate ops.size false) j = false := by
      intro j; unfold bl
      by_cases hj : j < ops.size <;> simp [hj]
    refine wp_region_any hm ?_
    refine wpAny_tree (P := P) (ds := ds) (n := n) (c0 := c0) (base0 := base0) (t0 := t) T hall (Q := lift ds n c0 base0 Qa) (Qa := Qa .normal) (fun t H a w hs hq => ⟨t, H, hs, hq⟩) ops.size (Array.replicate ops.size false) a _
      ⟨by simp, fun i o _ hL => (by rw [hbl] at hL; cases hL), ops.size, [], tt, H, N, fun k hk => (by cases hk), fun k lk _ _ => ⟨fun hL => (by rw [hbl] at hL; cases hL), fun hk => (by cases hk)⟩, fun s hs => ?_, t, hs.drawn, fun s j lj _ _ hL => (by rw [hbl] at hL; cases hL), fun s _ => rfl⟩
      (Nat.le_trans List.countP_le_length (by simp))
    refine keep s (fun j hj lj hlj hd => ?_)
    unfold lightsAt heavyAt at hj
    rw [List.mem_filter] at hj
    simp only [Bool.and_eq_true, hlj, Option.any_some, Bool.not_eq_true'] at hj
    have := (hs j lj hlj hd).2 hj.2.1.1
    rw [this] at hj
    cases hj.2.1.2
  · cases hl
def lightCodeX (P : Program) (n : Nat) : Code → Option LCode
  | .skip => some .skip
  | .region _ ops draw => match lightList P n ops ops.toList with
    | some lis => if draw then (if drawOk ops.toList lis (masks ops.toList []) then some (.draw (mkDs lis (masks ops.toList []))) else match lightAlts P n ops lis with
      | some c => some c
      | none => lightTree ops lis) else some (.region lis)
    | none => none
  | .seq a b => match lightCodeX P n a with
    | some x => match lightCodeX P n b with
      | some y => some (.seq x y)
      | none => none
    | none => none
  | .cond c a b => if opndOk n c then match lightCodeX P n a with
    | some x => match lightCodeX P n b with
      | some y => some (.cond c x y)
      | none => none
    | none => none else none
  | .block id c => match lightCodeX P n c with
    | some x => some (.block id x)
    | none => none
  | .loop c => match lightCodeX P n c with
    | some x => some (.loop x)
    | none => none
  | .exit id => some (.exit id)
  | .ret => some .ret
  | _ => none
theorem region_soundX (hm : P.follows .mixedOrders = true) {id : Nat} {ops : Array Oper} {draw : Bool} {lc : LCode} (hl : lightCodeX P n (.region id ops draw) = some lc) {Qa : Post} {t : Tm} {H : Heap} {a : Act} {w : World}
    (hs : St ds n c0 base0 t H a w) (h : wpA P lc Qa t H) : (Code.region id ops draw).wp P (lift ds n c0 base0 Qa) a w := by
  unfold lightCodeX at hl
  split at hl
  · rename_i lis hlis
    split at hl
    · rename_i hdraw
      subst hdraw
      split at hl
      · rename_i hok
        refine region_sound hm (id := id) (ops := ops) (draw := true) (lc := lc) ?_ hs h
        unfold lightCode
        rw [hlis]
        simp only [if_true]
        rw [if_pos hok]
        exact hl
      · split at hl
        · rename_i c hc
          cases hl
          exact alts_sound hm hc hs h
        · exact tree_sound hm (lightList_all2 hlis) hl hs h
    · rename_i hdraw
      refine region_sound hm (id := id) (ops := ops) (draw := draw) (lc := lc) ?_ hs h
      unfold lightCode
      rw [hlis]
      simp only
      rw [if_neg hdraw]
      exact hl
  · cases hl
theorem wpA_soundX (hm : P.follows .mixedOrders = true) : ∀ {c : Code} {lc : LCode} {Qa : Post} {t : Tm} {H : Heap} {a : Act} {w : World}, lightCodeX P n c = some lc → St ds n c0 base0 t H a w → wpA P lc Qa t H → c.wp P (lift ds n c0 base0 Qa) a w := by
  intro c
  induction c with
  | skip => intro lc Qa t H a w hl hs h; cases hl; exact wp_skip ⟨t, H, hs, h⟩
  | region id ops draw => intro lc Qa t H a w hl hs h; exact region_soundX hm hl hs h
  | seq x y ihx ihy =>
    intro lc Qa t H a w hl hs h
    unfold lightCodeX at hl
    split at hl
    · rename_i lx hx
      split at hl
      · rename_i ly hy
        cases hl
        refine wp_seq (wp_mono (ihx hx hs h) ?_)
        rintro e a' w' ⟨t', H', hs', hq⟩
        cases e <;> simp only [thenA, Exit.then] at hq ⊢
        · exact ihy hy hs' hq
        all_goals exact ⟨t', H', hs', hq⟩
      · cases hl
    · cases hl
  | cond c x y ihx ihy =>
    intro lc Qa t H a w hl hs h
    unfold lightCodeX at hl
    split at hl
    · rename_i hc
      split at hl
      · rename_i lx hx
        split at hl
        · rename_i ly hy
          cases hl
          simp only [wpA] at h
          obtain ⟨hdef, hsz, ρ, hR, hle, hb, ht⟩ := hs
          have hr := ht.ev (x := c) (by rw [hsz]; exact hc)
          have hs' : St ds n c0 base0 t H a w := ⟨hdef, hsz, ρ, hR, hle, hb, ht⟩
          split at h
          · rename_i hv
            exact wp_cond_true ((r3_bool_iff hr true).2 hv) (ihx hx hs' h)
          · rename_i hv
            exact wp_cond_false ((r3_bool_iff hr false).2 hv) (ihy hy hs' h)
          · exact h.elim
        · cases hl
      · cases hl
    · cases hl
  | block id c ih =>
    intro lc Qa t H a w hl hs h
    unfold lightCodeX at hl
    split at hl
    · rename_i lx hx
      cases hl
      refine wp_block (wp_mono (ih hx hs h) ?_)
      rintro e a' w' ⟨t', H', hs', hq⟩
      cases e with
      | exit id' =>
        simp only [blockA, Exit.inBlock] at hq ⊢
        split
        · rename_i he; rw [if_pos he] at hq; exact ⟨t', H', hs', hq⟩
        · rename_i he; rw [if_neg he] at hq; exact ⟨t', H', hs', hq⟩
      | _ => exact ⟨t', H', hs', hq⟩
    · cases hl
  | loop c ih =>
    intro lc Qa t H a w hl hs h
    unfold lightCodeX at hl
    split at hl
    · rename_i lx hx
      cases hl
      obtain ⟨k, hk⟩ := h
      refine wp_loop_at (fun k a w => ∃ t H, St ds n c0 base0 t H a w ∧ iterA (wpA P lx) Qa k t H) (n := k) ⟨t, H, hs, hk⟩ ?_
      rintro k a w ⟨t, H, hs, hk⟩
      cases k with
      | zero => exact hk.elim
      | succ k =>
        refine wp_mono (ih hx hs hk) ?_
        rintro e a' w' ⟨t', H', hs', hq⟩
        cases e <;> simp only [thenA, Exit.then] at hq ⊢
        · exact ⟨k, Nat.lt_succ_self k, t', H', hs', hq⟩
        all_goals exact ⟨t', H', hs', hq⟩
    · cases hl
  | exit id => intro lc Qa t H a w hl hs h; cases hl; exact wp_exit ⟨t, H, hs, h⟩
  | ret => intro lc Qa t H a w hl hs h; cases hl; exact wp_ret ⟨t, H, hs, h⟩
  | rangeFunc _ _ _ _ _ _ => intro lc Qa t H a w hl; cases hl
  | scope _ _ => intro lc Qa t H a w hl; cases hl
  | label _ => intro lc Qa t H a w hl; cases hl
  | goto _ => intro lc Qa t H a w hl; cases hl
  | refuse _ => intro lc Qa t H a w hl; cases hl
end

/-! ### results, contracts -/
inductive LRes where
  | tmp (i : Nat)
  | cell (i : Nat) (agg : Bool) (n : Nat)
def lightRes (P : Program) (n : Nat) : List ResultVar → Option (List LRes)
  | [] => some []
  | .tmp i :: rest => if i < n then (lightRes P n rest).map (.tmp i :: ·) else none
  | .cell i ty :: rest => if i < n then match aggInfo P ty with
    | some (b, k) => (lightRes P n rest).map (.cell i b k :: ·)
    | none => none else none
def resV (t : Tm) (H : Heap) : List LRes → Option (List Value)
  | [] => some []
  | .tmp i :: rest => if notTup (t i) then (resV t H rest).map (t i :: ·) else none
  | .cell i b k :: rest => (sLoad H b k (t i)).bind fun v => if notTup v then (resV t H rest).map (v :: ·) else none
def packV : List Value → Value
  | [v] => v
  | vs => .tuple vs.toArray
def resFn (tmps : Array Value) : ResultVar → Sem Value
  | .tmp t => pure (tmps.getD t undef)
  | .cell a t => do loadVar t (← asAddr (tmps.getD a undef))
theorem results_eq (fn : Func) (tmps : Array Value) : results fn tmps = (do let vs ← fn.results.mapM (resFn tmps); pure (if h : vs.size = 1 then vs[0] else .tuple vs)) := by
  unfold results
  congr 1
theorem res_run {P : Program} {n : Nat} {H : Heap} {ρ : Nat → Nat × Nat} {w : World} (hR : Rep H ρ w) {t : Tm} {tmps : Array Value} (hn : tmps.size = n) (ht : TmR (H.cx ρ) t tmps) :
    ∀ {rs : List ResultVar} {lr : List LRes} {vs : List Value}, lightRes P n rs = some lr → resV t H lr = some vs →
      ∃ vs', All2 (r2 (H.cx ρ)) vs vs' ∧ (rs.mapM (resFn tmps)).run P w = .ok vs' w
  | [], lr, vs, hl, hv => by cases hl; cases hv; exact ⟨[], .nil, by simp⟩
  | .tmp i :: rest, lr, vs, hl, hv => by
    simp only [lightRes] at hl
    split at hl
    · rename_i hi
      cases hr : lightRes P n rest with
      | none => simp [hr] at hl
      | some r =>
        simp [hr] at hl; subst hl
        simp only [resV] at hv
        split at hv
        · rename_i hnt
          cases hr2 : resV t H r with
          | none => simp [hr2] at hv
          | some us =>
            simp [hr2] at hv; subst hv
            obtain ⟨us', h1, h2⟩ := res_run hR hn ht hr hr2
            refine ⟨tmps.getD i undef :: us', .cons (r2_of_r3 (notTup_ne hnt) (ht i (by rw [hn]; exact hi))) h1, ?_⟩
            have h0 : (resFn tmps (.tmp i)).run P w = .ok (tmps.getD i undef) w := rfl
            rw [List.mapM_cons]
            simp only [Sem.run_bind, Sem.run_pure, Result.andThen_ok, h0, h2]
        · cases hv
    · cases hl
  | .cell i ty :: rest, lr, vs, hl, hv => by
    simp only [lightRes] at hl
    split at hl
    · rename_i hi
      split at hl
      · rename_i b k hb
        cases hr : lightRes P n rest with
        | none => simp [hr] at hl
        | some r =>
          simp [hr] at hl; subst hl
          obtain ⟨d, ti, hd, hti, rfl, rfl, hpos⟩ := aggInfo_spec hb
          simp only [resV] at hv
          cases hsl : sLoad H (aggOf d) ti.size (t i) with
          | none => simp [hsl] at hv
          | some u =>
            simp only [hsl, Option.bind_some] at hv
            split at hv
            · rename_i hnt
              cases hr2 : resV t H r with
              | none => simp [hr2] at hv
              | some us =>
                simp [hr2] at hv; subst hv
                obtain ⟨us', h1, h2⟩ := res_run hR hn ht hr hr2
                have hti2 := ht i (by rw [hn]; exact hi)
                obtain ⟨u', hrun, hru⟩ := load_same (P := P) hR hd hti hti2 hsl hpos
                refine ⟨u' :: us', .cons (r2_of_r3 (notTup_ne hnt) hru) h1, ?_⟩
                have hptr : ∃ ad, t i = .pointer (some ad) := by
                  unfold sLoad at hsl
                  split at hsl
                  · rename_i ad he; exact ⟨ad, he⟩
                  · cases hsl
                obtain ⟨ad, had⟩ := hptr
                rw [had] at hti2
                obtain ⟨_, hpt⟩ := r3_ptr hti2
                have hload : (loadVar ty ((H.cx ρ).addr ad)).run P w = .ok u' w := by
                  rw [hpt] at hrun
                  simpa [Instr.loadAt, Instr.sureAddr] using hrun
                have h0 : (resFn tmps (.cell i ty)).run P w = .ok u' w := by simp [resFn, hpt, asAddr, hload]
                rw [List.mapM_cons]
                simp only [Sem.run_bind, Sem.run_pure, Result.andThen_ok, h0, h2]
            · cases hv
      · cases hl
    · cases hl

theorem packV_rel {c : Cx} {vs vs' : List Value} (h : All2 (r2 c) vs vs') : r3 c (packV vs) (if h : vs'.toArray.size = 1 then vs'.toArray[0] else .tuple vs'.toArray) := by
  cases h with
  | nil => exact ⟨#[], rfl, .nil⟩
  | cons h1 h2 =>
    cases h2 with
    | nil => exact r3_of_r2 h1
    | cons h3 h4 => exact ⟨_, rfl, by simpa using All2.cons h1 (All2.cons h3 h4)⟩
/-- The slots at a call's begin. -/
def initT (args : List Value) : Tm := fun i => args.getD i undef
/-- A body and its results, in light form. -/
def Light (P : Program) (f : FuncId) (nargs n : Nat) (lc : LCode) (lr : List LRes) : Prop :=
  ∃ fn c, P.funcs[f]? = some fn ∧ fn.body = some c ∧ fn.ntmps = n ∧ lightCode P n c = some lc ∧ lightRes P n fn.results.toList = some lr ∧ nargs ≤ n
def EndA (Q : Value → Heap → Prop) (lr : List LRes) : Post := fun e t H => (e = .normal ∨ e = .ret) ∧ ∃ vs, resV t H lr = some vs ∧ Q (packV vs) H
theorem calls_of_wpA {P : Program} (hm : P.follows .mixedOrders = true) {f : FuncId} {n : Nat} {lc : LCode} {lr : List LRes} {args : List Value} (hL : Light P f args.length n lc lr) {H : Heap} {Q : Value → Heap → Prop}
    (h : wpA P lc (EndA Q lr) (initT args) H) {ρ : Nat → Nat × Nat} {w : World} {args' : List Value} (hR : Rep H ρ w) (hargs : All2 (r3 (H.cx ρ)) args args') :
    Calls P f args'.toArray w fun e w' => ∃ v v' H' ρ', Q v H' ∧ e = .returned v' ∧ H'.base = H.base ∧ (H.cx ρ).le (H'.cx ρ') ∧ r3 (H'.cx ρ') v v' ∧ Rep H' ρ' w' := by
  obtain ⟨fn, c, hf, hb, hn, hc, hres, hle⟩ := hL
  refine calls_of_wp hf hb ?_
  have hal := hargs.length
  have hsz : (args'.toArray ++ Array.replicate (fn.ntmps - args'.toArray.size) undef).size = n := by simp; omega
  have hst : St [] n (H.cx ρ) H.base (initT args) H { tmps := args'.toArray ++ Array.replicate (fn.ntmps - args'.toArray.size) undef, defers := [] } w := by
    refine ⟨rfl, hsz, ρ, hR, Cx.le.refl _, rfl, ?_⟩
    intro i hi
    unfold initT
    by_cases hlt : i < args.length
    · have hlt' : i < args'.length := by omega
      have h1 : args.getD i undef = args[i] := by simp [List.getD, hlt]
      have h2 : (args'.toArray ++ Array.replicate (fn.ntmps - args'.toArray.size) undef).getD i undef = args'[i] := by
        simp only [Array.getD, hi, dif_pos]
        rw [Array.getInternal_eq_getElem, Array.getElem_append_left (by simpa using hlt')]
        simp
      rw [h1, h2]
      exact hargs.getBoth (List.getElem?_eq_getElem hlt) (List.getElem?_eq_getElem hlt')
    · have h1 : args.getD i undef = undef := by simp [List.getD, List.getElem?_eq_none (show args.length ≤ i by omega)]
      have h2 : (args'.toArray ++ Array.replicate (fn.ntmps - args'.toArray.size) undef).getD i undef = undef := by
        simp only [Array.getD, hi, dif_pos]
        rw [Array.getInternal_eq_getElem, Array.getElem_append_right (by simp; omega)]
        simp
      rw [h1, h2]
      exact undef_rel _
  refine wp_mono (wpA_sound hm hc hst h) ?_
  rintro e a w' ⟨t, H', ⟨hdef, hsz', ρ', hR', hle', hb', ht'⟩, he, vs, hvs, hQ⟩
  obtain ⟨vs', hrel, hrun⟩ := res_run hR' hsz' ht' hres hvs
  have hresults : (results fn a.tmps).run P w' = .ok (if h : vs'.toArray.size = 1 then vs'.toArray[0] else .tuple vs'.toArray) w' := by
    rw [results_eq, Array.mapM_eq_mapM_toList, Sem.run_bind, Sem.run_map, hrun]
    rfl
  rcases he with rfl | rfl
  · exact ⟨hdef, _, hresults, _, _, H', ρ', hQ, rfl, hb', hle', packV_rel hrel, hR'⟩
  · exact ⟨hdef, _, hresults, _, _, H', ρ', hQ, rfl, hb', hle', packV_rel hrel, hR'⟩
/-- The same, with regions whose heavy operations are not all ordered. -/
def LightX (P : Program) (f : FuncId) (nargs n : Nat) (lc : LCode) (lr : List LRes) : Prop :=
  ∃ fn c, P.funcs[f]? = some fn ∧ fn.body = some c ∧ fn.ntmps = n ∧ lightCodeX P n c = some lc ∧ lightRes P n fn.results.toList = some lr ∧ nargs ≤ n
theorem calls_of_wpAX {P : Program} (hm : P.follows .mixedOrders = true) {f : FuncId} {n : Nat} {lc : LCode} {lr : List LRes} {args : List Value} (hL : LightX P f args.length n lc lr) {H : Heap} {Q : Value → Heap → Prop}
    (h : wpA P lc (EndA Q lr) (initT args) H) {ρ : Nat → Nat × Nat} {w : World} {args' : List Value} (hR : Rep H ρ w) (hargs : All2 (r3 (H.cx ρ)) args args') :
    Calls P f args'.toArray w fun e w' => ∃ v v' H' ρ', Q v H' ∧ e = .returned v' ∧ H'.base = H.base ∧ (H.cx ρ).le (H'.cx ρ') ∧ r3 (H'.cx ρ') v v' ∧ Rep H' ρ' w' := by
  obtain ⟨fn, c, hf, hb, hn, hc, hres, hle⟩ := hL
  refine calls_of_wp hf hb ?_
  have hal := hargs.length
  have hsz : (args'.toArray ++ Array.replicate (fn.ntmps - args'.toArray.size) undef).size = n := by simp; omega
  have hst : St [] n (H.cx ρ) H.base (initT args) H { tmps := args'.toArray ++ Array.replicate (fn.ntmps - args'.toArray.size) undef, defers := [] } w := by
    refine ⟨rfl, hsz, ρ, hR, Cx.le.refl _, rfl, ?_⟩
    intro i hi
    unfold initT
    by_cases hlt : i < args.length
    · have hlt' : i < args'.length := by omega
      have h1 : args.getD i undef = args[i] := by simp [List.getD, hlt]
      have h2 : (args'.toArray ++ Array.replicate (fn.ntmps - args'.toArray.size) undef).getD i undef = args'[i] := by
        simp only [Array.getD, hi, dif_pos]
        rw [Array.getInternal_eq_getElem, Array.getElem_append_left (by simpa using hlt')]
        simp
      rw [h1, h2]
      exact hargs.getBoth (List.getElem?_eq_getElem hlt) (List.getElem?_eq_getElem hlt')
    · have h1 : args.getD i undef = undef := by simp [List.getD, List.getElem?_eq_none (show args.length ≤ i by omega)]
      have h2 : (args'.toArray ++ Array.replicate (fn.ntmps - args'.toArray.size) undef).getD i undef = undef := by
        simp only [Array.getD, hi, dif_pos]
        rw [Array.getInternal_eq_getElem, Array.getElem_append_right (by simp; omega)]
        simp
      rw [h1, h2]
      exact undef_rel _
  refine wp_mono (wpA_soundX hm hc hst h) ?_
  rintro e a w' ⟨t, H', ⟨hdef, hsz', ρ', hR', hle', hb', ht'⟩, he, vs, hvs, hQ⟩
  obtain ⟨vs', hrel, hrun⟩ := res_run hR' hsz' ht' hres hvs
  have hresults : (results fn a.tmps).run P w' = .ok (if h : vs'.toArray.size = 1 then vs'.toArray[0] else .tuple vs'.toArray) w' := by
    rw [results_eq, Array.mapM_eq_mapM_toList, Sem.run_bind, Sem.run_map, hrun]
    rfl
  rcases he with rfl | rfl
  · exact ⟨hdef, _, hresults, _, _, H', ρ', hQ, rfl, hb', hle', packV_rel hrel, hR'⟩
  · exact ⟨hdef, _, hresults, _, _, H', ρ', hQ, rfl, hb', hle', packV_rel hrel, hR'⟩
end Go.Ot
