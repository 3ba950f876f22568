/-
  Part Q: a region that draws its order, over all orders.
-/
import Derived.Test.YtfmcnojojknkfaaOtP
set_option linter.unusedVariables false
set_option linter.unusedSimpArgs false
namespace Go.Ot
open Go.RowKit

/-! ### an operation looks at its operands alone -/
theorem evParts_congr {t t' : Tm} {ps : List (Nat × Nat × Operand)} (h : ∀ x ∈ ps.map (·.2.2), ev t x = ev t' x) : evParts t ps = evParts t' ps := by
  unfold evParts
  apply List.map_congr_left
  intro p hp
  rw [h p.2.2 (List.mem_map.2 ⟨p, hp, rfl⟩)]
theorem map_ev_congr {t t' : Tm} {l : List Operand} (h : ∀ x ∈ l, ev t x = ev t' x) : l.map (ev t) = l.map (ev t') := List.map_congr_left h
theorem omap_ev_congr {t t' : Tm} {x : Option Operand} (h : ∀ y ∈ x.toList, ev t y = ev t' y) : x.map (ev t) = x.map (ev t') := by
  cases x with
  | none => rfl
  | some x => simp [h x (by simp)]
theorem step_congr {t t' : Tm} {H : Heap} {op : LOp} (h : ∀ x ∈ op.ops, ev t x = ev t' x) : step H t op = step H t' op := by
  cases op <;> simp only [LOp.ops] at h <;> simp only [step]
  case pick c x y => rw [h c (by simp), h x (by simp), h y (by simp)]
  case build z ps => rw [evParts_congr h]
  case buildSlice e sz len z ps => rw [evParts_congr h]
  case func fn f c => rw [map_ev_congr (fun x hx => h x (by simp [hx])), map_ev_congr (l := c) (fun x hx => h x (by simp [hx]))]
  case slice sz x lo hi mx =>
    rw [h x (by simp), omap_ev_congr (x := lo) (fun y hy => h y (by simp only [List.mem_cons, List.mem_append]; exact .inr (.inl (.inl hy)))),
      omap_ev_congr (x := hi) (fun y hy => h y (by simp only [List.mem_cons, List.mem_append]; exact .inr (.inl (.inr hy)))), omap_ev_congr (x := mx) (fun y hy => h y (by simp only [List.mem_cons, List.mem_append]; exact .inr (.inr hy)))]
  case sliceArr n sz x lo hi mx =>
    rw [h x (by simp), omap_ev_congr (x := lo) (fun y hy => h y (by simp only [List.mem_cons, List.mem_append]; exact .inr (.inl (.inl hy)))),
      omap_ev_congr (x := hi) (fun y hy => h y (by simp only [List.mem_cons, List.mem_append]; exact .inr (.inl (.inr hy)))), omap_ev_congr (x := mx) (fun y hy => h y (by simp only [List.mem_cons, List.mem_append]; exact .inr (.inr hy)))]
  case sliceStr x lo hi =>
    rw [h x (by simp), omap_ev_congr (x := lo) (fun y hy => h y (by simp only [List.mem_cons, List.mem_append]; exact .inr (.inl hy))),
      omap_ev_congr (x := hi) (fun y hy => h y (by simp only [List.mem_cons, List.mem_append]; exact .inr (.inr hy)))]
  case minmax mx x rest => rw [h x (by simp), map_ev_congr (fun y hy => h y (by simp [hy]))]
  case mapUpdate d x k v => rw [h x (by simp), h k (by simp), h v (by simp)]
  case entryStore x k v => rw [h x (by simp), h k (by simp), h v (by simp)]
  all_goals (first | rfl | (rw [h _ (by simp)]; done) | (rw [h _ (by simp : _ ∈ _)]; try rw [h _ (by simp)]) | simp [h] | simp_all)
theorem Do_congr {P : Program} {t t' : Tm} {H H' : Heap} {op : LOp} {v : Value} (h : ∀ x ∈ op.ops, ev t x = ev t' x) (hd : Do P t H op v H') : Do P t' H op v H' := by
  cases op
  case call f args => simp only [Do] at hd ⊢; rw [← map_ev_congr (l := args) h]; exact hd
  case callv x args => simp only [Do] at hd ⊢; rw [← h x (by simp [LOp.ops]), ← map_ev_congr (l := args) (fun y hy => h y (by simp [LOp.ops, hy]))]; exact hd
  case invoke x name args => simp only [Do] at hd ⊢; rw [← h x (by simp [LOp.ops]), ← map_ev_congr (l := args) (fun y hy => h y (by simp [LOp.ops, hy]))]; exact hd
  case eqR neq xT x y =>
    obtain ⟨h1, xs, ys, b, hx, hy, h2⟩ := hd
    exact ⟨h1, xs, ys, b, by rw [← h x (by simp [LOp.ops])]; exact hx, by rw [← h y (by simp [LOp.ops])]; exact hy, h2⟩
  all_goals (simp only [Do] at hd ⊢; rw [← step_congr h]; exact hd)
theorem ev_slots {t t' : Tm} {i : LIns} (h : ∀ s ∈ rds i, t s = t' s) : (∀ x ∈ i.op.ops, ev t x = ev t' x) ∧ wantedL i.guard t = wantedL i.guard t' := by
  constructor
  · intro x hx
    cases x with
    | tmp s => exact h s (by simp only [rds, List.mem_append, List.mem_filterMap]; exact .inl ⟨_, hx, rfl⟩)
    | _ => rfl
  · cases hg : i.guard with
    | none => rfl
    | some g =>
      obtain ⟨s, b⟩ := g
      have := h s (by simp only [rds, hg, List.mem_append]; exact .inr (by simp))
      simp only [wantedL, this]

/-! ### all orders -/
theorem mkDs_get {lis : List LIns} {ms : List Nat} {i : Nat} {li : LIns} (h : lis[i]? = some li) : (mkDs lis ms)[i]? = some (mkD lis ms i li) := by
  simp [mkDs, List.getElem?_zipIdx, h]
theorem mkDs_length (lis : List LIns) (ms : List Nat) : (mkDs lis ms).length = lis.length := by simp [mkDs]
theorem mkDs_pure {lis : List LIns} {ms : List Nat} : ∀ d ∈ mkDs lis ms, d.kind = .pure → isPure d.ins.op = true := by
  intro d hd hk
  simp only [mkDs, List.mem_map] at hd
  obtain ⟨p, _, rfl⟩ := hd
  simp only [mkD, kindOf] at hk ⊢
  split at hk
  · assumption
  · split at hk <;> cases hk
/-- How many heavy operations are in a set. -/
def hcount (lis : List LIns) (L : Nat → Bool) : Nat := (List.range lis.length).countP (fun j => (lis[j]?).any isHeavy && L j)
theorem hcount_le {lis : List LIns} {L M : Nat → Bool} (h : ∀ j li, lis[j]? = some li → isHeavy li = true → L j = true → M j = true) : hcount lis L ≤ hcount lis M := by
  unfold hcount
  refine List.countP_mono_left fun j _ hj => ?_
  simp only [Bool.and_eq_true] at hj ⊢
  refine ⟨hj.1, ?_⟩
  cases hl : lis[j]? with
  | none => simp [hl] at hj
  | some li => exact h j li hl (by simpa [hl] using hj.1) hj.2
theorem hcount_congr {lis : List LIns} {L M : Nat → Bool} (h : ∀ j li, lis[j]? = some li → isHeavy li = true → L j = M j) : hcount lis L = hcount lis M :=
  Nat.le_antisymm (hcount_le fun j li hl hh hL => by rw [← h j li hl hh]; exact hL) (hcount_le fun j li hl hh hL => by rw [h j li hl hh]; exact hL)
theorem countP_range_insert (p : Nat → Bool) (i : Nat) (hi : p i = false) : ∀ n, (List.range n).countP (fun j => p j || j == i) = (List.range n).countP p + (if i < n then 1 else 0)
  | 0 => by simp
  | n + 1 => by
    rw [List.range_succ, List.countP_append, List.countP_append, countP_range_insert p i hi n]
    simp only [List.countP_cons, List.countP_nil]
    by_cases h : n = i
    · subst h; simp [hi]
    · have : (n == i) = false := by simpa using h
      simp only [this, Bool.or_false]
      by_cases hlt : i < n
      · rw [if_pos hlt, if_pos (show i < n + 1 by omega)]
        omega
      · rw [if_neg hlt, if_neg (show ¬ i < n + 1 by omega)]
        simp [h]
theorem hAt_count {lis : List LIns} {ms : List Nat} : ∀ k, k ≤ lis.length → hAt (mkDs lis ms) k = hcount lis (fun j => decide (j < k))
  | 0, _ => by
    have : hAt (mkDs lis ms) 0 = 0 := by cases mkDs lis ms <;> rfl
    rw [this]; simp [hcount]
  | k + 1, hk => by
    have hlt : k < lis.length := hk
    have hg : lis[k]? = some lis[k] := List.getElem?_eq_getElem hlt
    rw [hAt_succ (mkDs_get hg), hAt_count k (by omega)]
    unfold hcount
    by_cases hh : isHeavy lis[k] = true
    · have e : (List.range lis.length).countP (fun j => (lis[j]?).any isHeavy && decide (j < k + 1)) = (List.range lis.length).countP (fun j => ((lis[j]?).any isHeavy && decide (j < k)) || j == k) := by
        refine List.countP_congr fun j hj => ?_
        by_cases hjk : j = k
        · subst hjk; simp [hg, hh]
        · have : (j == k) = false := by simpa using hjk
          have e2 : decide (j < k + 1) = decide (j < k) := by simp only [decide_eq_decide]; omega
          rw [this, e2, Bool.or_false]
      rw [e, countP_range_insert _ k (by simp) _, if_pos hlt]
      have : hv (mkD lis ms k lis[k]) = 1 := by
        simp only [isHeavy, beq_iff_eq] at hh
        simp [hv, mkD, hh]
      rw [this]
    · have e : (List.range lis.length).countP (fun j => (lis[j]?).any isHeavy && decide (j < k + 1)) = (List.range lis.length).countP (fun j => (lis[j]?).any isHeavy && decide (j < k)) := by
        refine List.countP_congr fun j hj => ?_
        by_cases hjk : j = k
        · subst hjk; simp [hg, hh]
        · have e2 : decide (j < k + 1) = decide (j < k) := by simp only [decide_eq_decide]; omega
          rw [e2]
      rw [e]
      have : hv (mkD lis ms k lis[k]) = 0 := by
        simp only [isHeavy, beq_iff_eq] at hh
        simp [hv, mkD, hh]
      rw [this]; rfl
structure Draws (ops : List Oper) (lis : List LIns) (ms : List Nat) : Prop where
  len : lis.length = ops.length
  masks : ms = masks ops []
  edge : ∀ (i : Nat) (o : Oper), ops[i]? = some o → ∀ e ∈ edgesOf o, e < i
  uniq : ∀ (i j : Nat) (li lj : LIns) (s : Nat), lis[i]? = some li → lis[j]? = some lj → li.dst = some s → lj.dst = some s → i = j
  reads : ∀ (i j : Nat) (li lj : LIns) (s : Nat), lis[i]? = some li → lis[j]? = some lj → s ∈ rds li → lj.dst = some s → (j < i ∧ An ms i j = true) ∨ (i < j ∧ An ms j i = true)
  heavy : ∀ (i j : Nat) (li lj : LIns), lis[i]? = some li → lis[j]? = some lj → isHeavy li = true → isHeavy lj = true → j < i → An ms i j = true
theorem draws_of {ops : List Oper} {lis : List LIns} {ms : List Nat} (hlen : lis.length = ops.length) (hms : ms = masks ops []) (h : drawOk ops lis ms = true) : Draws ops lis ms := by
  have key : ∀ (i : Nat) (li : LIns) (o : Oper), lis[i]? = some li → ops[i]? = some o → (∀ e ∈ edgesOf o, e < i) ∧ ∀ (j : Nat) (lj : LIns), lis[j]? = some lj →
      ((i = j ∨ lj.dst = none ∨ lj.dst ≠ li.dst) ∧ (∀ s, lj.dst = some s → s ∈ rds li → (j < i ∧ An ms i j = true) ∨ (i < j ∧ An ms j i = true)) ∧ (isHeavy li = true → isHeavy lj = true → j < i → An ms i j = true)) := by
    intro i li o hli ho
    have hi : i < lis.length := (List.getElem?_eq_some_iff.1 hli).1
    have h1 := List.all_eq_true.1 h i (List.mem_range.2 hi)
    simp only [hli, ho, Bool.and_eq_true, List.all_eq_true, decide_eq_true_eq] at h1
    refine ⟨h1.1, fun j lj hlj => ?_⟩
    have hj : j < lis.length := (List.getElem?_eq_some_iff.1 hlj).1
    have h2 := h1.2 j (List.mem_range.2 hj)
    simp only [hlj, Bool.and_eq_true] at h2
    obtain ⟨⟨q1, q2⟩, q3⟩ := h2
    refine ⟨?_, ?_, ?_⟩
    · simp only [Bool.or_eq_true, beq_iff_eq, bne_iff_ne] at q1
      rcases q1 with (q1 | q1) | q1
      · exact .inl q1
      · exact .inr (.inl (by simpa using q1))
      · exact .inr (.inr q1)
    · intro s hs hm
      rw [hs] at q2
      simp only [Bool.or_eq_true, Bool.not_eq_true', Bool.and_eq_true, decide_eq_true_eq] at q2
      rcases q2 with (q2 | q2) | q2
      · exact absurd (List.contains_iff_mem.2 hm) (by rw [q2]; decide)
      · exact .inl q2
      · exact .inr q2
    · intro hi hj hlt
      simp only [hi, hj, hlt, decide_true, Bool.and_self, Bool.not_true, Bool.false_or] at q3
      exact q3
  have get : ∀ (i : Nat) (li : LIns), lis[i]? = some li → ∃ o, ops[i]? = some o := fun i li hli => by
    have hi : i < ops.length := by have := (List.getElem?_eq_some_iff.1 hli).1; omega
    exact ⟨_, List.getElem?_eq_getElem hi⟩
  refine ⟨hlen, hms, ?_, ?_, ?_, ?_⟩
  · intro i o ho
    have hi : i < lis.length := by have := (List.getElem?_eq_some_iff.1 ho).1; omega
    exact (key i _ o (List.getElem?_eq_getElem hi) ho).1
  · intro i j li lj s hli hlj hs1 hs2
    obtain ⟨o, ho⟩ := get i li hli
    rcases ((key i li o hli ho).2 j lj hlj).1 with h | h | h
    · exact h
    · rw [hs2] at h; cases h
    · rw [hs1, hs2] at h; exact absurd rfl h
  · intro i j li lj s hli hlj hm hs
    obtain ⟨o, ho⟩ := get i li hli
    exact ((key i li o hli ho).2 j lj hlj).2.1 s hs hm
  · intro i j li lj hli hlj hhi hhj hlt
    obtain ⟨o, ho⟩ := get i li hli
    exact ((key i li o hli ho).2 j lj hlj).2.2 hhi hhj hlt
end Go.Ot
