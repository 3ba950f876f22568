/-
  Part R, continued: a region whose heavy operations are not all ordered, told by a tree of orders.
-/
import Derived.Test.YtfmcnojojknkfaaOtR
set_option linter.unusedVariables false
set_option linter.unusedSimpArgs false
namespace Go.Ot
open Go.RowKit
def hAnc (lis : List LIns) (ms : List Nat) (j : Nat) : List Nat := (heavies lis).filter fun k => An ms j k
/-- All heavy operations that j comes behind are in h. -/
def setl (lis : List LIns) (ms : List Nat) (h : List Nat) (j : Nat) : Bool := (hAnc lis ms j).all fun k => h.contains k
def readAt (lis : List LIns) (i : Nat) : Bool := (lis[i]?).any fun li => kindOf li.op == .read
def lightsAt (lis : List LIns) (ms : List Nat) (h : List Nat) : List Nat :=
  (List.range lis.length).filter fun j => !heavyAt lis j && setl lis ms h j && (h.isEmpty || !setl lis ms h.dropLast j)
def againAt (lis : List LIns) (ms : List Nat) (h : List Nat) : List Nat :=
  (List.range lis.length).filter fun j => readAt lis j && !h.isEmpty && setl lis ms h.dropLast j && h.all fun k => !An ms k j
def kidsAt (lis : List LIns) (ms : List Nat) (h : List Nat) : List Nat := (heavies lis).filter fun i => !h.contains i && setl lis ms h i
def ltsT (lis : List LIns) : List Nat → DT → DT
  | [], r => r
  | j :: l, r => match lis[j]? with | some li => .light li (ltsT lis l r) | none => .fail
def agsT (lis : List LIns) : List Nat → DT → DT
  | [], r => r
  | j :: l, r => match lis[j]? with | some li => .again li (agsT lis l r) | none => .fail
def fksT (lis : List LIns) (f : Nat → DT) : List Nat → DT
  | [] => .stop
  | i :: l => match lis[i]? with | some li => .fork li (f i) (fksT lis f l) | none => .fail
def mkDT (lis : List LIns) (ms : List Nat) : Nat → List Nat → DT
  | 0, _ => .fail
  | n + 1, h => ltsT lis (lightsAt lis ms h) (agsT lis (againAt lis ms h) (match kidsAt lis ms h with | [] => .done | k :: ks => fksT lis (fun i => mkDT lis ms n (h ++ [i])) (k :: ks)))
/-- What is asked of such a region. -/
def treeOk (ops : List Oper) (lis : List LIns) (ms : List Nat) : Bool :=
  (List.range lis.length).all fun i => match lis[i]?, ops[i]? with
    | some li, some o =>
      (edgesOf o).all (fun e => decide (e < i)) &&
      (List.range lis.length).all (fun j => match lis[j]? with
        | some lj => (i == j || lj.dst.isNone || lj.dst != li.dst) && (match lj.dst with | some s => !(rds li).contains s || (decide (j < i) && An ms i j) | none => true) && (!An ms i j || (hAnc lis ms j).all fun k => An ms i k)
        | none => true)
    | _, _ => false
structure Trees (ops : List Oper) (lis : List LIns) (ms : List Nat) : Prop where
  len : lis.length = ops.length
  masks : ms = masks ops []
  edge : ∀ (i : Nat) (o : Oper), ops[i]? = some o → ∀ e ∈ edgesOf o, e < i
  uniq : ∀ (i j : Nat) (li lj : LIns) (s : Nat), lis[i]? = some li → lis[j]? = some lj → li.dst = some s → lj.dst = some s → i = j
  reads : ∀ (i j : Nat) (li lj : LIns) (s : Nat), lis[i]? = some li → lis[j]? = some lj → s ∈ rds li → lj.dst = some s → j < i ∧ An ms i j = true
  trans : ∀ (i j : Nat), i < lis.length → j < lis.length → An ms i j = true → ∀ k ∈ hAnc lis ms j, An ms i k = true
theorem trees_of {ops : List Oper} {lis : List LIns} {ms : List Nat} (hlen : lis.length = ops.length) (hms : ms = masks ops []) (h : treeOk ops lis ms = true) : Trees ops lis ms := by
  have key : ∀ (i : Nat) (li : LIns) (o : Oper), lis[i]? = some li → ops[i]? = some o → (∀ e ∈ edgesOf o, e < i) ∧ ∀ (j : Nat) (lj : LIns), lis[j]? = some lj →
      ((i = j ∨ lj.dst = none ∨ lj.dst ≠ li.dst) ∧ (∀ s, lj.dst = some s → s ∈ rds li → j < i ∧ An ms i j = true) ∧ (An ms i j = true → ∀ k ∈ hAnc lis ms j, An ms i k = true)) := by
    intro i li o hli ho
    have hi : i < lis.length := (List.getElem?_eq_some_iff.1 hli).1
    have h1 := List.all_eq_true.1 h i (List.mem_range.2 hi)
    simp only [hli, ho, Bool.and_eq_true, List.all_eq_true, decide_eq_true_eq] at h1
    refine ⟨h1.1, fun j lj hlj => ?_⟩
    have hj : j < lis.length := (List.getElem?_eq_some_iff.1 hlj).1
    have h2 := h1.2 j (List.mem_range.2 hj)
    simp only [hlj, Bool.and_eq_true] at h2
    obtain ⟨⟨q1, q2⟩, q3⟩ := h2
    refine ⟨?_, ?_, ?_⟩
    · simp only [Bool.or_eq_true, beq_iff_eq, bne_iff_ne] at q1
      rcases q1 with (q1 | q1) | q1
      · exact .inl q1
      · exact .inr (.inl (by simpa using q1))
      · exact .inr (.inr q1)
    · intro s hs hm
      rw [hs] at q2
      simp only [Bool.or_eq_true, Bool.not_eq_true', Bool.and_eq_true, decide_eq_true_eq] at q2
      rcases q2 with q2 | q2
      · exact absurd (List.contains_iff_mem.2 hm) (by rw [q2]; decide)
      · exact q2
    · intro ha k hk
      rw [ha] at q3
      simp only [Bool.not_true, Bool.false_or] at q3
      exact List.all_eq_true.1 q3 k hk
  have get : ∀ (i : Nat) (li : LIns), lis[i]? = some li → ∃ o, ops[i]? = some o := fun i li hli => by
    have hi : i < ops.length := by have := (List.getElem?_eq_some_iff.1 hli).1; omega
    exact ⟨_, List.getElem?_eq_getElem hi⟩
  refine ⟨hlen, hms, ?_, ?_, ?_, ?_⟩
  · intro i o ho
    have hi : i < lis.length := by have := (List.getElem?_eq_some_iff.1 ho).1; omega
    exact (key i _ o (List.getElem?_eq_getElem hi) ho).1
  · intro i j li lj s hli hlj hs1 hs2
    obtain ⟨o, ho⟩ := get i li hli
    rcases ((key i li o hli ho).2 j lj hlj).1 with h | h | h
    · exact h
    · rw [hs2] at h; cases h
    · rw [hs1, hs2] at h; exact absurd rfl h
  · intro i j li lj s hli hlj hm hs
    obtain ⟨o, ho⟩ := get i li hli
    exact ((key i li o hli ho).2 j lj hlj).2.1 s hs hm
  · intro i j hi hj ha k hk
    obtain ⟨o, ho⟩ := get i _ (List.getElem?_eq_getElem hi)
    exact ((key i _ o (List.getElem?_eq_getElem hi) ho).2 j _ (List.getElem?_eq_getElem hj)).2.2 ha k hk
/-- A light operation has been done, or need not be. -/
def FactT (P : Program) (tt : Tm) (H : Heap) (li : LIns) : Prop :=
  if wantedL li.guard tt = true then ∃ v, Do P tt H li.op v H ∧ (match li.dst with | some s => tt s = v | none => True) else (match li.dst with | some s => tt s = undef | none => True)
/-- What stands at a node: h is done; tt holds the values of all that is settled. -/
structure NodeT (P : Program) (lis : List LIns) (ms : List Nat) (Qa : Tm → Heap → Prop) (n : Nat) (h : List Nat) (tt : Tm) (H : Heap) : Prop where
  lights : ∀ (j : Nat) (li : LIns), lis[j]? = some li → isHeavy li = false → setl lis ms h j = true → (∀ k ∈ h, An ms k j = false) → FactT P tt H li
  kids : ∀ (i : Nat) (li : LIns), lis[i]? = some li → isHeavy li = true → i ∉ h → setl lis ms h i = true →
    if wantedL li.guard tt = true then ∃ v H', Do P tt H li.op v H' ∧ wpT P (mkDT lis ms n (h ++ [i])) Qa (put tt li.dst v) H' else wpT P (mkDT lis ms n (h ++ [i])) Qa (put tt li.dst undef) H
  fin : kidsAt lis ms h = [] → Qa tt H
theorem FactT.congr {P : Program} {tt tt' : Tm} {H H' : Heap} {li : LIns} (hs : ∀ s ∈ rds li, tt s = tt' s) (hd : ∀ s, li.dst = some s → tt s = tt' s) (hp : wantedL li.guard tt = true → ∀ v, Do P tt H li.op v H → Do P tt' H' li.op v H') (h : FactT P tt H li) : FactT P tt' H' li := by
  obtain ⟨h1, h2⟩ := ev_slots hs
  unfold FactT at h ⊢
  rw [← h2]
  split
  · rename_i hg
    rw [if_pos hg] at h
    obtain ⟨v, q1, q2⟩ := h
    refine ⟨v, hp hg v q1, ?_⟩
    cases hdd : li.dst with
    | none => trivial
    | some s => simp only [hdd] at q2 ⊢; rw [← hd s hdd]; exact q2
  · rename_i hg
    rw [if_neg hg] at h
    cases hdd : li.dst with
    | none => trivial
    | some s => simp only [hdd] at h ⊢; rw [← hd s hdd]; exact h
theorem put_ne {t : Tm} {d : Option Nat} {v : Value} {s : Nat} (h : d ≠ some s) : put t d v s = t s := by
  unfold put
  cases d with
  | none => rfl
  | some d => simp only; rw [if_neg (fun he => h (by rw [he]))]
theorem put_eq {t : Tm} {v : Value} {s : Nat} : put t (some s) v s = v := by simp [put]
section
variable {P : Program} {ops : List Oper} {lis : List LIns} {ms : List Nat} {Qa : Tm → Heap → Prop}
theorem lts_run (T : Trees ops lis ms) {H : Heap} {r : DT} : ∀ (l : List Nat) (tt0 : Tm), l.Pairwise (· < ·) → wpT P (ltsT lis l r) Qa tt0 H →
    ∃ tt, wpT P r Qa tt H ∧ (∀ s, (∀ j ∈ l, ∀ lj, lis[j]? = some lj → lj.dst ≠ some s) → tt s = tt0 s) ∧ ∀ j ∈ l, ∀ lj, lis[j]? = some lj → FactT P tt H lj
  | [], tt0, _, h => ⟨tt0, h, fun _ _ => rfl, fun j hj => by cases hj⟩
  | j :: l, tt0, hp, h => by
    obtain ⟨hj, hp⟩ := List.pairwise_cons.1 hp
    unfold ltsT at h
    cases hlj : lis[j]? with
    | none => rw [hlj] at h; exact h.elim
    | some li =>
      rw [hlj] at h
      have self : ∀ s ∈ rds li, li.dst ≠ some s := fun s hs hd => by have := (T.reads j j li li s hlj hlj hs hd).1; omega
      have later : ∀ k ∈ l, ∀ lk, lis[k]? = some lk → ∀ s ∈ rds li, lk.dst ≠ some s := fun k hk lk hlk s hs hd => by
        have := (T.reads j k li lk s hlj hlk hs hd).1; have := hj k hk; omega
      have same : ∀ k ∈ l, ∀ lk, lis[k]? = some lk → ∀ s, li.dst = some s → lk.dst ≠ some s := fun k hk lk hlk s hs hd => by
        have := T.uniq j k li lk s hlj hlk hs hd; have := hj k hk; omega
      simp only [wpT] at h
      have step : ∀ v, wpT P (ltsT lis l r) Qa (put tt0 li.dst v) H → (FactT P tt0 H li ∨ True) → (∀ tt, (∀ s ∈ rds li, tt0 s = tt s) → (∀ s, li.dst = some s → tt s = v) → FactT P tt H li) →
          ∃ tt, wpT P r Qa tt H ∧ (∀ s, (∀ k ∈ j :: l, ∀ lk, lis[k]? = some lk → lk.dst ≠ some s) → tt s = tt0 s) ∧ ∀ k ∈ j :: l, ∀ lk, lis[k]? = some lk → FactT P tt H lk := by
        intro v hw _ hf
        obtain ⟨tt, q1, q2, q3⟩ := lts_run T l (put tt0 li.dst v) hp hw
        refine ⟨tt, q1, fun s hs => ?_, fun k hk lk hlk => ?_⟩
        · rw [q2 s (fun k hk lk hlk => hs k (by simp [hk]) lk hlk), put_ne (hs j (by simp) li hlj)]
        · rcases List.mem_cons.1 hk with rfl | hk
          · rw [hlj] at hlk; cases hlk
            refine hf tt (fun s hs => ?_) (fun s hs => ?_)
            · rw [q2 s (fun k hk lk hlk => later k hk lk hlk s hs), put_ne (self s hs)]
            · rw [q2 s (fun k hk lk hlk => same k hk lk hlk s hs), hs, put_eq]
          · exact q3 k hk lk hlk
      split at h
      · rename_i hg
        obtain ⟨v, h1, h2⟩ := h
        refine step v h2 (.inr trivial) (fun tt e1 e2 => ?_)
        obtain ⟨c1, c2⟩ := ev_slots e1
        unfold FactT
        rw [← c2, if_pos hg]
        refine ⟨v, Do_congr c1 h1, ?_⟩
        cases hd : li.dst with
        | none => trivial
        | some s => exact e2 s hd
      · rename_i hg
        refine step undef h (.inr trivial) (fun tt e1 e2 => ?_)
        obtain ⟨c1, c2⟩ := ev_slots e1
        unfold FactT
        rw [← c2, if_neg hg]
        cases hd : li.dst with
        | none => trivial
        | some s => exact e2 s hd
theorem ags_run {H : Heap} {r : DT} {tt : Tm} : ∀ (l : List Nat), wpT P (agsT lis l r) Qa tt H → wpT P r Qa tt H ∧ ∀ j ∈ l, ∀ lj, lis[j]? = some lj → wantedL lj.guard tt = true → ∃ v, Do P tt H lj.op v H ∧ (match lj.dst with | some s => tt s = v | none => v = undef)
  | [], h => ⟨h, fun j hj => by cases hj⟩
  | j :: l, h => by
    unfold agsT at h
    cases hlj : lis[j]? with
    | none => rw [hlj] at h; exact h.elim
    | some li =>
      rw [hlj] at h
      simp only [wpT] at h
      obtain ⟨q1, q2⟩ := ags_run l h.2
      refine ⟨q1, fun k hk lk hlk hg => ?_⟩
      rcases List.mem_cons.1 hk with rfl | hk
      · rw [hlj] at hlk; cases hlk
        have := h.1
        rw [if_pos hg] at this
        exact this
      · exact q2 k hk lk hlk hg
theorem fks_run {H : Heap} {f : Nat → DT} {tt : Tm} : ∀ (l : List Nat), wpT P (fksT lis f l) Qa tt H → ∀ i ∈ l, ∀ li, lis[i]? = some li →
    if wantedL li.guard tt = true then ∃ v H', Do P tt H li.op v H' ∧ wpT P (f i) Qa (put tt li.dst v) H' else wpT P (f i) Qa (put tt li.dst undef) H
  | [], h, i, hi, _, _ => by cases hi
  | j :: l, h, i, hi, li, hli => by
    unfold fksT at h
    cases hlj : lis[j]? with
    | none => rw [hlj] at h; exact h.elim
    | some lj =>
      rw [hlj] at h
      simp only [wpT] at h
      rcases List.mem_cons.1 hi with rfl | hi
      · rw [hlj] at hli; cases hli
        exact h.1
      · exact fks_run l h.2 i hi li hli
theorem range_pw (n : Nat) (p : Nat → Bool) : ((List.range n).filter p).Pairwise (· < ·) := List.Pairwise.filter _ (List.pairwise_lt_range (n := n))
theorem mem_heavies {i : Nat} {li : LIns} (hli : lis[i]? = some li) (hh : isHeavy li = true) : i ∈ heavies lis := by
  unfold heavies heavyAt
  rw [List.mem_filter]
  exact ⟨List.mem_range.2 (List.getElem?_eq_some_iff.1 hli).1, by rw [hli]; simpa using hh⟩
theorem node_enter (T : Trees ops lis ms) {h : List Nat} {tt0 : Tm} {H : Heap} {n : Nat} (hw : wpT P (mkDT lis ms (n + 1) h) Qa tt0 H)
    (hold : h ≠ [] → ∀ (j : Nat) (lj : LIns), lis[j]? = some lj → isHeavy lj = false → setl lis ms h.dropLast j = true → (∀ k ∈ h, An ms k j = false) →
      (if wantedL lj.guard tt0 = true then (kindOf lj.op = .pure → ∃ v, Do P tt0 H lj.op v H ∧ (match lj.dst with | some s => tt0 s = v | none => True)) else (match lj.dst with | some s => tt0 s = undef | none => True))) :
    ∃ tt, NodeT P lis ms Qa n h tt H ∧ ∀ s, (∀ j ∈ lightsAt lis ms h, ∀ lj, lis[j]? = some lj → lj.dst ≠ some s) → tt s = tt0 s := by
  unfold mkDT at hw
  obtain ⟨tt, w1, keep, facts⟩ := lts_run T _ tt0 (range_pw _ _) hw
  obtain ⟨w2, again⟩ := ags_run _ w1
  refine ⟨tt, ⟨?_, ?_, ?_⟩, keep⟩
  · intro j li hli hh hset hno
    have hj : j < lis.length := (List.getElem?_eq_some_iff.1 hli).1
    have hnh : heavyAt lis j = false := by unfold heavyAt; rw [hli]; simpa using hh
    by_cases hnew : (h.isEmpty || !setl lis ms h.dropLast j) = true
    · refine facts j ?_ li hli
      rw [List.mem_filter]
      exact ⟨List.mem_range.2 hj, by rw [hnh, hset, hnew]; rfl⟩
    · simp only [Bool.or_eq_true, Bool.not_eq_true', not_or, Bool.not_eq_true, Bool.not_eq_false] at hnew
      obtain ⟨hne, hpar⟩ := hnew
      have hne' : h ≠ [] := fun e => by rw [e] at hne; cases hne
      have ho := hold hne' j li hli hh hpar hno
      -- the slots stand
      have noW : ∀ s, (s ∈ rds li ∨ li.dst = some s) → ∀ k ∈ lightsAt lis ms h, ∀ lk, lis[k]? = some lk → lk.dst ≠ some s := by
        intro s hs k hk lk hlk hd
        unfold lightsAt at hk
        rw [List.mem_filter] at hk
        simp only [Bool.and_eq_true] at hk
        obtain ⟨hk0, ⟨hk1, hk2⟩, hk3⟩ := hk
        rw [hne] at hk3
        simp only [Bool.false_or, Bool.not_eq_true'] at hk3
        have hkl := List.mem_range.1 hk0
        rcases hs with hs | hs
        · have hA := (T.reads j k li lk s hli hlk hs hd).2
          have : setl lis ms h.dropLast k = true := by
            unfold setl
            rw [List.all_eq_true]
            intro m hm
            have hmA := T.trans j k hj hkl hA m hm
            unfold setl at hpar
            rw [List.all_eq_true] at hpar
            refine hpar m ?_
            unfold hAnc at hm ⊢
            rw [List.mem_filter] at hm ⊢
            exact ⟨hm.1, hmA⟩
          rw [this] at hk3; cases hk3
        · have := T.uniq j k li lk s hli hlk hs hd
          subst this
          rw [hpar] at hk3; cases hk3
      have es : ∀ s ∈ rds li, tt0 s = tt s := fun s hs => (keep s (noW s (.inl hs))).symm
      have ed : ∀ s, li.dst = some s → tt0 s = tt s := fun s hs => (keep s (noW s (.inr hs))).symm
      obtain ⟨c1, c2⟩ := ev_slots es
      cases hk : kindOf li.op with
      | pure =>
        refine FactT.congr es ed (fun _ v hd => Do_congr c1 hd) (H := H) ?_
        unfold FactT
        split
        · rename_i hg
          rw [if_pos hg] at ho
          exact ho hk
        · rename_i hg
          rw [if_neg hg] at ho
          exact ho
      | read =>
        unfold FactT
        rw [← c2]
        split
        · rename_i hg
          have hm : j ∈ againAt lis ms h := by
            unfold againAt
            rw [List.mem_filter]
            refine ⟨List.mem_range.2 hj, ?_⟩
            have hr : readAt lis j = true := by unfold readAt; rw [hli]; simp [hk]
            rw [hr, hne, hpar]
            simp only [Bool.not_false, Bool.and_true, Bool.true_and, List.all_eq_true, Bool.not_eq_true']
            exact hno
          obtain ⟨v, q1, q2⟩ := again j hm li hli (by rw [← c2]; exact hg)
          refine ⟨v, q1, ?_⟩
          cases hd : li.dst with
          | none => trivial
          | some s => simp only [hd] at q2 ⊢; exact q2
        · rename_i hg
          rw [if_neg hg] at ho
          cases hd : li.dst with
          | none => trivial
          | some s => simp only [hd] at ho ⊢; rw [← ed s hd]; exact ho
      | heavy => simp [isHeavy, hk] at hh
  · intro i li hli hh hni hset
    have hi : i ∈ kidsAt lis ms h := by
      unfold kidsAt
      rw [List.mem_filter]
      refine ⟨mem_heavies hli hh, ?_⟩
      rw [hset]
      simpa using hni
    cases hk : kidsAt lis ms h with
    | nil => rw [hk] at hi; cases hi
    | cons k ks =>
      rw [hk] at w2 hi
      exact fks_run (k :: ks) w2 i hi li hli
  · intro hk
    rw [hk] at w2
    exact w2
end
/-- What holds along any order: h has been done of the heavy operations. -/
structure AlongT (P : Program) (ds : List Deferred) (n : Nat) (c0 : Cx) (base0 : Base) (ops : Array Oper) (lis : List LIns) (ms : List Nat) (Qa : Tm → Heap → Prop) (t0 : Tm) (listed : Array Bool) (a : Act) (w : World) : Prop where
  size : listed.size = ops.size
  closed : ∀ i o, ops[i]? = some o → bl listed i = true → ∀ e ∈ edgesOf o, bl listed e = true
  node : ∃ (nn : Nat) (h : List Nat) (tt : Tm) (H : Heap), NodeT P lis ms Qa nn h tt H ∧ (∀ k ∈ h, ∃ lk, lis[k]? = some lk ∧ isHeavy lk = true) ∧ (∀ k lk, lis[k]? = some lk → isHeavy lk = true → (bl listed k = true ↔ k ∈ h)) ∧
    (∀ s, (∀ (j : Nat) (lj : LIns), lis[j]? = some lj → lj.dst = some s → (isHeavy lj = true → j ∉ h) ∧ (isHeavy lj = false → setl lis ms h j = false)) → tt s = t0 s) ∧
    ∃ t, St ds n c0 base0 t H a w ∧ (∀ (s j : Nat) (lj : LIns), lis[j]? = some lj → lj.dst = some s → bl listed j = true → t s = tt s) ∧
      (∀ s, (∀ (j : Nat) (lj : LIns), lis[j]? = some lj → bl listed j = true → lj.dst ≠ some s) → t s = t0 s)
section
variable {P : Program} {ds : List Deferred} {n : Nat} {c0 : Cx} {base0 : Base} {ops : Array Oper} {lis : List LIns} {ms : List Nat} {t0 : Tm}
theorem wpAny_tree (T : Trees ops.toList lis ms) (hl : All2 (fun o i => lightIns P n ops o = some i) ops.toList lis)
    {Q : Exit → Act → World → Prop} {Qa : Tm → Heap → Prop} (hQ : ∀ t H a w, St ds n c0 base0 t H a w → Qa t H → Q .normal a w) :
    ∀ (fuel : Nat) (listed : Array Bool) (a : Act) (w : World), AlongT P ds n c0 base0 ops lis ms Qa t0 listed a w → (List.range ops.size).countP (fun j => !bl listed j) ≤ fuel → wpAny P .any ops Q fuel listed a w := by
  have hm : lis.length = ops.size := by simpa using T.len
  have closedA : ∀ {listed : Array Bool} {a : Act} {w : World}, AlongT P ds n c0 base0 ops lis ms Qa t0 listed a w → ∀ i, bl listed i = true → ∀ j, An ms i j = true → bl listed j = true := by
    intro listed a w hA i hi j hj
    unfold An at hj
    rw [T.masks] at hj
    refine closed_of_mask ops.toList [] ?_ ?_ ?_ i hi j hj
    · intro i o ho e he; simpa using T.edge i o ho e he
    · intro i o ho hL e he; exact hA.closed i o (by simpa using ho) (by simpa using hL) e he
    · intro i hi; simp at hi
  -- all are listed: the end
  have atEnd : ∀ (listed : Array Bool) (a : Act) (w : World), AlongT P ds n c0 base0 ops lis ms Qa t0 listed a w → (∀ j, j < ops.size → bl listed j = true) → Q .normal a w := by
    intro listed a w hA hall
    obtain ⟨nn, h, tt, H, N, hh, hL, hun, t, hst, h1, h2⟩ := hA.node
    have hk : kidsAt lis ms h = [] := by
      unfold kidsAt
      rw [List.filter_eq_nil_iff]
      intro i hi
      unfold heavies heavyAt at hi
      rw [List.mem_filter, List.mem_range] at hi
      have hli : lis[i]? = some lis[i] := List.getElem?_eq_getElem hi.1
      have hhv : isHeavy lis[i] = true := by rw [hli] at hi; simpa using hi.2
      have := (hL i _ hli hhv).1 (hall i (by omega))
      simp [this]
    have ht : t = tt := by
      funext s
      by_cases hex : ∃ (j : Nat) (lj : LIns), lis[j]? = some lj ∧ lj.dst = some s
      · obtain ⟨j, lj, hlj, hs⟩ := hex
        have hjl : j < lis.length := (List.getElem?_eq_some_iff.1 hlj).1
        exact h1 s j lj hlj hs (hall j (by omega))
      · rw [h2 s (fun j lj hlj _ hs => hex ⟨j, lj, hlj, hs⟩), hun s (fun j lj hlj hs => absurd ⟨j, lj, hlj, hs⟩ hex)]
    subst ht
    exact hQ _ _ _ _ hst (N.fin hk)
  have noneReady : ∀ (listed : Array Bool) (a : Act) (w : World), AlongT P ds n c0 base0 ops lis ms Qa t0 listed a w → Region.ready .any ops listed = [] → ∀ j, j < ops.size → bl listed j = true := by
    intro listed a w hA hr j
    induction j using Nat.strongRecOn with
    | _ j ih =>
      intro hj
      cases hb : bl listed j with
      | true => rfl
      | false =>
        have : j ∈ Region.ready .any ops listed := by
          rw [mem_ready]
          have hjs : j < listed.size := by rw [hA.size]; exact hj
          refine ⟨?_, ops[j], by simp [hj], fun e he hbd => ?_⟩
          · unfold bl at hb
            simp only [Array.getD, hjs, dif_pos] at hb ⊢
            exact hb
          · have hlt := T.edge j ops[j] (by simp [hj]) e.on (mem_edges he hbd)
            exact ih e.on hlt (by omega)
        rw [hr] at this; cases this
  intro fuel
  induction fuel with
  | zero =>
    intro listed a w hA hc
    have hall : ∀ j, j < ops.size → bl listed j = true := by
      intro j hj
      have h0 : (List.range ops.size).countP (fun j => !bl listed j) = 0 := by omega
      rw [List.countP_eq_zero] at h0
      have := h0 j (List.mem_range.2 hj)
      simpa using this
    refine ⟨?_, atEnd listed a w hA hall⟩
    cases hr : Region.ready .any ops listed with
    | nil => rfl
    | cons i rest =>
      have hmem : i ∈ Region.ready .any ops listed := by rw [hr]; simp
      rw [mem_ready] at hmem
      obtain ⟨h0, o, ho, _⟩ := hmem
      have hi : i < ops.size := (Array.getElem?_eq_some_iff.1 ho).1
      have hb := hall i hi
      have his : i < listed.size := by rw [hA.size]; exact hi
      unfold bl at hb
      simp only [Array.getD, his, dif_pos] at h0 hb
      rw [h0] at hb; cases hb
  | succ fuel ih =>
    intro listed a w hA hc
    refine ⟨fun hr => atEnd listed a w hA (noneReady listed a w hA hr), fun i hi => ?_⟩
    rw [mem_ready] at hi
    obtain ⟨h0, o, ho, hedges⟩ := hi
    have hi : i < ops.size := (Array.getElem?_eq_some_iff.1 ho).1
    have his : i < listed.size := by rw [hA.size]; exact hi
    have hnb : bl listed i = false := by
      unfold bl; simp only [Array.getD, his, dif_pos] at h0 ⊢; exact h0
    have hil : i < lis.length := by omega
    have hli : lis[i]? = some lis[i] := List.getElem?_eq_getElem hil
    generalize hlg : lis[i] = li at hli
    have hlight : lightIns P n ops o = some li := hl.getBoth (by simpa using ho) hli
    have hdir : ∀ e ∈ edgesOf o, bl listed e = true := fun k hk => by
      obtain ⟨e, he, hb, rfl⟩ := of_mem_edges hk
      exact hedges e he hb
    have hanc : ∀ j, An ms i j = true → bl listed j = true := by
      intro j hj
      unfold An at hj
      rw [T.masks] at hj
      have := closed_of_mask (L := fun k => bl listed k || k == i) ops.toList [] (by intro i o ho e he; simpa using T.edge i o ho e he)
        (by
          intro k o' ho' hL e he
          simp only [List.length_nil, Nat.zero_add, Bool.or_eq_true, beq_iff_eq] at hL ⊢
          rcases hL with hL | hL
          · exact .inl (hA.closed k o' (by simpa using ho') hL e he)
          · subst hL
            have : o' = o := by have h1 : ops[k]? = some o' := by simpa using ho'
                                rw [ho] at h1; cases h1; rfl
            subst this
            exact .inl (hdir e he))
        (by intro k hk; simp at hk) i (by simp) j hj
      simp only [Bool.or_eq_true, beq_iff_eq] at this
      rcases this with h | h
      · exact h
      · have := mask_lt ops.toList [] (by intro i o ho e he; simpa using T.edge i o ho e he) (by intro i hi; simp at hi) i j hj
        omega
    obtain ⟨nn, h, tt, H, N, hh, hL, hun, t, hst, h1, h2⟩ := hA.node
    have hset : ∀ j, bl (listed.setIfInBounds i true) j = (if j = i then true else bl listed j) := fun j => bl_set his
    have hdst := (lightIns_spec hlight).2.2.2
    -- i's heavy ancestors are done
    have hsetl : setl lis ms h i = true := by
      unfold setl
      rw [List.all_eq_true]
      intro k hk
      unfold hAnc heavies heavyAt at hk
      rw [List.mem_filter, List.mem_filter, List.mem_range] at hk
      have hlk : lis[k]? = some lis[k] := List.getElem?_eq_getElem hk.1.1
      have hhk : isHeavy lis[k] = true := by have := hk.1.2; rw [hlk] at this; simpa using this
      simpa using (hL k _ hlk hhk).1 (hanc k hk.2)
    have hnod : ∀ k ∈ h, An ms k i = false := by
      intro k hk
      obtain ⟨lk, hlk, hhk⟩ := hh k hk
      cases hA' : An ms k i with
      | false => rfl
      | true => have := closedA hA k ((hL k lk hlk hhk).2 hk) i hA'; rw [hnb] at this; cases this
    have agree : ∀ s ∈ rds li, tt s = t s := by
      intro s hs
      by_cases hex : ∃ (j : Nat) (lj : LIns), lis[j]? = some lj ∧ lj.dst = some s
      · obtain ⟨j, lj, hlj, hds⟩ := hex
        exact (h1 s j lj hlj hds (hanc j (T.reads i j li lj s hli hlj hs hds).2)).symm
      · rw [h2 s (fun j lj hlj _ hs => hex ⟨j, lj, hlj, hs⟩), hun s (fun j lj hlj hs => absurd ⟨j, lj, hlj, hs⟩ hex)]
    obtain ⟨hcongr, hwant⟩ := ev_slots agree
    have hcount : (List.range ops.size).countP (fun j => !bl (listed.setIfInBounds i true) j) ≤ fuel := by
      have e : (List.range ops.size).countP (fun j => !bl listed j) = (List.range ops.size).countP (fun j => (!bl (listed.setIfInBounds i true) j) || j == i) := by
        refine List.countP_congr fun j _ => ?_
        rw [hset]
        by_cases hji : j = i
        · subst hji; simp [hnb]
        · simp [hji]
      rw [e, countP_range_insert _ i (by rw [hset]; simp) _, if_pos hi] at hc
      omega
    have hclosed : ∀ k o', ops[k]? = some o' → bl (listed.setIfInBounds i true) k = true → ∀ e ∈ edgesOf o', bl (listed.setIfInBounds i true) e = true := by
      intro k o' ho' hL' e he
      rw [hset] at hL' ⊢
      by_cases hki : k = i
      · subst hki
        rw [ho] at ho'; cases ho'
        have := hdir e he
        split
        · rfl
        · exact this
      · rw [if_neg hki] at hL'
        have := hA.closed k o' ho' hL' e he
        split
        · rfl
        · exact this
    have hwr : ∀ (v : Value) (tt' : Tm), (∀ (s j : Nat) (lj : LIns), lis[j]? = some lj → lj.dst = some s → bl listed j = true → tt' s = tt s) → (∀ s, li.dst = some s → tt' s = v) →
        (∀ (s j : Nat) (lj : LIns), lis[j]? = some lj → lj.dst = some s → bl (listed.setIfInBounds i true) j = true → put t li.dst v s = tt' s) ∧
        (∀ s, (∀ (j : Nat) (lj : LIns), lis[j]? = some lj → bl (listed.setIfInBounds i true) j = true → lj.dst ≠ some s) → put t li.dst v s = t0 s) := by
      intro v tt' k1 k2
      refine ⟨fun s j lj hlj hds hb => ?_, fun s hs => ?_⟩
      · rw [hset] at hb
        by_cases hji : j = i
        · subst hji
          rw [hli] at hlj; cases hlj
          rw [hds, put_eq, k2 s hds]
        · rw [if_neg hji] at hb
          have hne : li.dst ≠ some s := fun he => hji (T.uniq _ _ _ _ s hlj hli hds he)
          rw [put_ne hne, h1 s j lj hlj hds hb, k1 s j lj hlj hds hb]
      · rw [put_ne (hs i li hli (by rw [hset]; simp))]
        exact h2 s (fun j lj hlj hb => hs j lj hlj (by rw [hset]; split <;> first | rfl | exact hb))
    unfold wpOp
    simp only [ho]
    obtain ⟨hdef, hsz, ρ, hR, hle, hb, ht⟩ := hst
    rw [wanted_eq hlight hsz ht, ← hwant]
    cases hhi : isHeavy li with
    | false =>
      have F := N.lights i li hli hhi hsetl hnod
      have nextL : ∀ (v v' : Value) (w' : World), (∀ s, li.dst = some s → tt s = v) → (∃ ρ, Rep H ρ w' ∧ c0.le (H.cx ρ) ∧ H.base = base0 ∧ TmR (H.cx ρ) t a.tmps ∧ r3 (H.cx ρ) v v') →
          wpAny P .any ops Q fuel (listed.setIfInBounds i true) (a.put o.dst v') w' := by
        rintro v v' w' hv ⟨ρ, hR, hle, hb, ht, hr⟩
        obtain ⟨z1, z2⟩ := hwr v tt (fun s j lj _ _ _ => rfl) hv
        refine ih _ _ _ ⟨by simp [hA.size], hclosed, nn, h, tt, H, N, hh, fun k lk hlk hhk => ?_, hun, put t li.dst v, ⟨by rw [put_defers']; exact hdef, by rw [put_size]; exact hsz, ρ, hR, hle, hb, by rw [hdst]; exact ht.put hr _⟩, z1, z2⟩ hcount
        rw [hset]
        have : k ≠ i := fun he => by subst he; rw [hli] at hlk; cases hlk; rw [hhi] at hhk; cases hhk
        rw [if_neg this]
        exact hL k lk hlk hhk
      unfold FactT at F
      by_cases hg : wantedL li.guard tt = true
      · rw [if_pos hg] at F
        rw [if_pos hg]
        obtain ⟨v, hdo, hv⟩ := F
        refine .inl (do_sound hlight (Do_congr hcongr hdo) hR hsz ht (Q := Q) ?_)
        intro ρ' v' w' hR' hle' hr
        exact nextL v v' w' (fun s hs => by rw [hs] at hv; exact hv) ⟨ρ', hR', hle.trans hle', hb, ht.mono hle', hr⟩
      · rw [if_neg hg] at F
        rw [if_neg hg]
        exact nextL undef undef w (fun s hs => by rw [hs] at F; exact F) ⟨ρ, hR, hle, hb, ht, undef_rel _⟩
    | true =>
      have hni : i ∉ h := fun hm' => by have := (hL i li hli hhi).2 hm'; rw [hnb] at this; cases this
      have K := N.kids i li hli hhi hni hsetl
      have nextH : ∀ (v v' : Value) (w' : World) (H' : Heap), wpT P (mkDT lis ms nn (h ++ [i])) Qa (put tt li.dst v) H' → (∃ ρ, Rep H' ρ w' ∧ c0.le (H'.cx ρ) ∧ H'.base = base0 ∧ TmR (H'.cx ρ) t a.tmps ∧ r3 (H'.cx ρ) v v') →
          wpAny P .any ops Q fuel (listed.setIfInBounds i true) (a.put o.dst v') w' := by
        rintro v v' w' H' hw ⟨ρ, hR, hle, hb, ht, hr⟩
        cases nn with
        | zero => exact hw.elim
        | succ nn =>
          have dl : (h ++ [i]).dropLast = h := by simp
          -- i's slot is read by none that is settled
          have noR : ∀ (j : Nat) (lj : LIns), lis[j]? = some lj → setl lis ms h j = true → ∀ s ∈ rds lj, li.dst ≠ some s := by
            intro j lj hlj hs s hm' hd
            have hA' := (T.reads j i lj li s hlj hli hm' hd).2
            unfold setl at hs
            rw [List.all_eq_true] at hs
            have := hs i (by unfold hAnc; rw [List.mem_filter]; exact ⟨mem_heavies hli hhi, hA'⟩)
            exact hni (by simpa using this)
          have noD : ∀ (j : Nat) (lj : LIns), lis[j]? = some lj → isHeavy lj = false → ∀ s, lj.dst = some s → li.dst ≠ some s := by
            intro j lj hlj hhj s hs hd
            have := T.uniq j i lj li s hlj hli hs hd
            subst this
            rw [hli] at hlj; cases hlj; rw [hhi] at hhj; cases hhj
          obtain ⟨tt', N', keep⟩ := node_enter T hw (by
            intro _ j lj hlj hhj hs hno
            rw [dl] at hs
            have F := N.lights j lj hlj hhj hs (fun k hk => hno k (by simp [hk]))
            have e1 : ∀ s ∈ rds lj, tt s = put tt li.dst v s := fun s hm' => (put_ne (noR j lj hlj hs s hm')).symm
            have e2 : ∀ s, lj.dst = some s → put tt li.dst v s = tt s := fun s hm' => put_ne (noD j lj hlj hhj s hm')
            obtain ⟨c1, c2⟩ := ev_slots e1
            unfold FactT at F
            rw [← c2]
            split
            · rename_i hg
              rw [if_pos hg] at F
              intro hp
              obtain ⟨u, q1, q2⟩ := F
              have hpure : isPure lj.op = true := by
                unfold kindOf at hp
                split at hp
                · assumption
                · split at hp <;> cases hp
              refine ⟨u, Do_congr c1 (pure_any hpure q1), ?_⟩
              cases hd : lj.dst with
              | none => trivial
              | some s => simp only [hd] at q2 ⊢; rw [e2 s hd]; exact q2
            · rename_i hg
              rw [if_neg hg] at F
              cases hd : lj.dst with
              | none => trivial
              | some s => simp only [hd] at F ⊢; rw [e2 s hd]; exact F)
          -- what stands of the values
          have keep2 : ∀ s, (∀ (j : Nat) (lj : LIns), lis[j]? = some lj → lj.dst = some s → isHeavy lj = true ∨ setl lis ms h j = true ∨ setl lis ms (h ++ [i]) j = false) → tt' s = put tt li.dst v s := by
            intro s hs
            refine keep s (fun j hj lj hlj hd => ?_)
            unfold lightsAt heavyAt at hj
            rw [List.mem_filter, dl] at hj
            simp only [Bool.and_eq_true, hlj, Option.any_some, Bool.not_eq_true', Bool.or_eq_true] at hj
            obtain ⟨_, ⟨q1, q2⟩, q3⟩ := hj
            rcases hs j lj hlj hd with h3 | h3 | h3
            · rw [h3] at q1; cases q1
            · rcases q3 with q3 | q3
              · simp at q3
              · rw [h3] at q3; cases q3
            · rw [h3] at q2; cases q2
          have uW : ∀ {s j : Nat} {lj : LIns}, lis[j]? = some lj → lj.dst = some s → ∀ (j' : Nat) (lj' : LIns), lis[j']? = some lj' → lj'.dst = some s → j' = j := fun hlj hs j' lj' hlj' hs' => T.uniq _ _ _ _ _ hlj' hlj hs' hs
          obtain ⟨z1, z2⟩ := hwr v tt' (fun s j lj hlj hds hbj => by
              have hne : li.dst ≠ some s := fun he => by have := T.uniq _ _ _ _ s hlj hli hds he; subst this; rw [hnb] at hbj; cases hbj
              rw [keep2 s (fun j' lj' hlj' hds' => ?_), put_ne hne]
              have := uW hlj hds j' lj' hlj' hds'
              subst this
              rw [hlj] at hlj'; cases hlj'
              cases hj : isHeavy lj with
              | true => exact .inl rfl
              | false =>
                refine .inr (.inl ?_)
                unfold setl
                rw [List.all_eq_true]
                intro k hk
                unfold hAnc heavies heavyAt at hk
                rw [List.mem_filter, List.mem_filter, List.mem_range] at hk
                have hlk : lis[k]? = some lis[k] := List.getElem?_eq_getElem hk.1.1
                have hhk : isHeavy lis[k] = true := by have := hk.1.2; rw [hlk] at this; simpa using this
                simpa using (hL k _ hlk hhk).1 (closedA hA j' hbj k hk.2))
            (fun s hs => by
              rw [keep2 s (fun j' lj' hlj' hds' => ?_), hs, put_eq]
              have := uW hli hs j' lj' hlj' hds'
              subst this
              rw [hli] at hlj'; cases hlj'
              exact .inl hhi)
          refine ih _ _ _ ⟨by simp [hA.size], hclosed, nn, h ++ [i], tt', H', N', ?_, ?_, ?_, put t li.dst v, ⟨by rw [put_defers']; exact hdef, by rw [put_size]; exact hsz, ρ, hR, hle, hb, by rw [hdst]; exact ht.put hr _⟩, z1, z2⟩ hcount
          · intro k hk
            rcases List.mem_append.1 hk with hk | hk
            · exact hh k hk
            · simp only [List.mem_singleton] at hk; subst hk; exact ⟨li, hli, hhi⟩
          · intro k lk hlk hhk
            rw [hset]
            by_cases hki : k = i
            · subst hki; simp
            · rw [if_neg hki]
              simp [hki, hL k lk hlk hhk]
          · intro s hs
            have hne : li.dst ≠ some s := fun he => ((hs i li hli he).1 hhi) (by simp)
            rw [keep2 s (fun j lj hlj hds => ?_), put_ne hne]
            · refine hun s (fun j lj hlj hds => ⟨fun h3 h4 => (hs j lj hlj hds).1 h3 (by simp [h4]), fun h3 => ?_⟩)
              have h5 := (hs j lj hlj hds).2 h3
              cases h6 : setl lis ms h j with
              | false => rfl
              | true =>
                exfalso
                unfold setl at h5 h6
                rw [List.all_eq_true] at h6
                have : ((hAnc lis ms j).all fun k => (h ++ [i]).contains k) = true := by
                  rw [List.all_eq_true]
                  intro k hk
                  have := h6 k hk
                  simp at this ⊢
                  exact .inl this
                rw [this] at h5; cases h5
            · cases h3 : isHeavy lj with
              | true => exact .inl rfl
              | false => exact .inr (.inr ((hs j lj hlj hds).2 h3))
      by_cases hg : wantedL li.guard tt = true
      · rw [if_pos hg] at K
        rw [if_pos hg]
        obtain ⟨v, H', hdo, hw⟩ := K
        refine .inl (do_sound hlight (Do_congr hcongr hdo) hR hsz ht (Q := Q) ?_)
        intro ρ' v' w' hR' hle' hr
        exact nextH v v' w' H' hw ⟨ρ', hR', hle.trans hle', by rw [do_base hdo]; exact hb, ht.mono hle', hr⟩
      · rw [if_neg hg] at K
        rw [if_neg hg]
        exact nextH undef undef w H K ⟨ρ, hR, hle, hb, ht, undef_rel _⟩
end
end Go.Ot
