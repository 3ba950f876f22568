/-
  Part R: the proof over all orders; light code out of code; contracts.
-/
import Derived.Test.YtfmcnojojknkfaaOtQ
set_option linter.unusedVariables false
set_option linter.unusedSimpArgs false
namespace Go.Ot
open Go.RowKit

theorem All2.getBoth {α β : Type} {R : α → β → Prop} {l : List α} {m : List β} (h : All2 R l m) {i : Nat} {a : α} {b : β} (ha : l[i]? = some a) (hb : m[i]? = some b) : R a b := by
  obtain ⟨b', hb', hr⟩ := h.get ha
  rw [hb] at hb'; cases hb'; exact hr
theorem mem_edges {o : Oper} {e : Edge} (he : e ∈ o.after) (hb : Region.binds .any e = true) : e.on ∈ edgesOf o := by
  simp only [edgesOf, List.mem_map, List.mem_filter]
  exact ⟨e, ⟨by simpa using he, hb⟩, rfl⟩
theorem of_mem_edges {o : Oper} {k : Nat} (h : k ∈ edgesOf o) : ∃ e ∈ o.after, Region.binds .any e = true ∧ e.on = k := by
  simp only [edgesOf, List.mem_map, List.mem_filter] at h
  obtain ⟨e, ⟨h1, h2⟩, h3⟩ := h
  exact ⟨e, by simpa using h1, h2, h3⟩
def bl (listed : Array Bool) (i : Nat) : Bool := listed.getD i false

/-- What holds along any order: L is listed. -/
structure Along (P : Program) (ds : List Deferred) (n : Nat) (c0 : Cx) (base0 : Base) (ops : Array Oper) (lis : List LIns) (ms : List Nat) (Hf : Nat → Heap) (vs : List Value) (t0 : Tm) (listed : Array Bool) (a : Act) (w : World) : Prop where
  size : listed.size = ops.size
  closed : ∀ i o, ops[i]? = some o → bl listed i = true → ∀ e ∈ edgesOf o, bl listed e = true
  st : ∃ t, St ds n c0 base0 t (Hf (hcount lis (bl listed))) a w ∧ (∀ (s j : Nat) (lj : LIns) (v : Value), lis[j]? = some lj → lj.dst = some s → vs[j]? = some v → bl listed j = true → t s = v) ∧
    (∀ s, (∀ (j : Nat) (lj : LIns), lis[j]? = some lj → bl listed j = true → lj.dst ≠ some s) → t s = t0 s)

section
variable {P : Program} {ds : List Deferred} {n : Nat} {c0 : Cx} {base0 : Base} {ops : Array Oper} {lis : List LIns} {ms : List Nat} {Hf : Nat → Heap} {m : Nat} {vs : List Value} {t0 : Tm}
theorem tAt_written (hd : Draws ops.toList lis ms) (htr : TraceOk P Hf m (mkDs lis ms) 0 t0 vs) : ∀ k, k ≤ lis.length → ∀ (s j : Nat) (lj : LIns) (v : Value), lis[j]? = some lj → lj.dst = some s → vs[j]? = some v → j < k → tAt (mkDs lis ms) vs t0 k s = v
  | 0, _, _, _, _, _, _, _, _, h => by omega
  | k + 1, hk, s, j, lj, v, hlj, hs, hv, hlt => by
    have hg : lis[k]? = some lis[k] := List.getElem?_eq_getElem hk
    obtain ⟨u, hu, _⟩ := trace_at htr (mkDs_get (ms := ms) hg)
    rw [tAt_succ (mkDs_get hg) hu]
    by_cases hjk : j = k
    · subst hjk
      rw [hlj] at hg; cases hg
      rw [hv] at hu; cases hu
      simp [put, mkD, hs]
    · have ih := tAt_written hd htr k (by omega) s j lj v hlj hs hv (by omega)
      have : (lis[k]).dst ≠ some s := fun he => hjk (hd.uniq _ _ _ _ s hlj hg hs he)
      unfold put
      simp only [mkD]
      cases hdst : (lis[k]).dst with
      | none => exact ih
      | some d =>
        simp only
        have : s ≠ d := fun he => this (by rw [hdst, he])
        rw [if_neg this]; exact ih
theorem tAt_kept (htr : TraceOk P Hf m (mkDs lis ms) 0 t0 vs) : ∀ k, k ≤ lis.length → ∀ s, (∀ (j : Nat) (lj : LIns), lis[j]? = some lj → j < k → lj.dst ≠ some s) → tAt (mkDs lis ms) vs t0 k s = t0 s
  | 0, _, s, _ => by
    have : tAt (mkDs lis ms) vs t0 0 = t0 := by cases mkDs lis ms <;> cases vs <;> rfl
    rw [this]
  | k + 1, hk, s, h => by
    have hg : lis[k]? = some lis[k] := List.getElem?_eq_getElem hk
    obtain ⟨u, hu, _⟩ := trace_at htr (mkDs_get (ms := ms) hg)
    rw [tAt_succ (mkDs_get hg) hu]
    have ih := tAt_kept htr k (by omega) s (fun j lj hl hj => h j lj hl (by omega))
    have hne := h k _ hg (by omega)
    unfold put
    simp only [mkD]
    cases hdst : (lis[k]).dst with
    | none => exact ih
    | some d =>
      simp only
      have : s ≠ d := fun he => hne (by rw [hdst, he])
      rw [if_neg this]; exact ih
theorem mask_lt : ∀ (ops : List Oper) (acc : List Nat), (∀ (i : Nat) (o : Oper), ops[i]? = some o → ∀ e ∈ edgesOf o, e < acc.length + i) → (∀ i, i < acc.length → ∀ j, (acc.getD i 0).testBit j = true → j < i) →
    ∀ i j, ((masks ops acc).getD i 0).testBit j = true → j < i
  | [], acc, _, h, i, j, hj => by
    by_cases hlt : i < acc.length
    · exact h i hlt j hj
    · simp only [masks] at hj
      rw [List.getD_eq_getElem?_getD, List.getElem?_eq_none (by omega)] at hj
      simp at hj
  | o :: rest, acc, h1, h3, i, j, hj => by
    refine mask_lt rest (acc ++ [maskOf acc (edgesOf o)]) ?_ ?_ i j hj
    · intro i o' ho e he
      have := h1 (i + 1) o' (by simpa using ho) e he
      simp; omega
    · intro i hlt j hj
      by_cases hi2 : i < acc.length
      · refine h3 i hi2 j ?_
        rw [List.getD_eq_getElem?_getD, List.getElem?_append_left hi2] at hj
        rw [List.getD_eq_getElem?_getD]; exact hj
      · have he : i = acc.length := by simp at hlt; omega
        subst he
        rw [List.getD_eq_getElem?_getD] at hj
        simp only [List.getElem?_concat_length, Option.getD_some] at hj
        unfold maskOf at hj
        rw [maskOf_bit] at hj
        simp only [Nat.zero_testBit, Bool.false_or, List.any_eq_true, Bool.or_eq_true, beq_iff_eq] at hj
        obtain ⟨e, he, hj⟩ := hj
        have hlt2 := h1 0 o (by simp) e he
        simp only [Nat.add_zero] at hlt2
        rcases hj with rfl | hj
        · exact hlt2
        · have := h3 e hlt2 j hj; omega
theorem bl_set {listed : Array Bool} {i j : Nat} (hi : i < listed.size) : bl (listed.setIfInBounds i true) j = (if j = i then true else bl listed j) := by
  unfold bl
  by_cases h : j = i
  · subst h; simp [hi]
  · simp [h, Array.getElem?_setIfInBounds_ne (Ne.symm h)]
theorem wpAny_along (hm : lis.length = ops.size) (hd : Draws ops.toList lis ms) (hl : All2 (fun o i => lightIns P n ops o = some i) ops.toList lis) (htr : TraceOk P Hf m (mkDs lis ms) 0 t0 vs)
    {Q : Exit → Act → World → Prop} {Qa : Tm → Heap → Prop} (hQ : ∀ t H a w, St ds n c0 base0 t H a w → Qa t H → Q .normal a w) (hfin : Qa (tAt (mkDs lis ms) vs t0 lis.length) (Hf m)) :
    ∀ (fuel : Nat) (listed : Array Bool) (a : Act) (w : World), Along P ds n c0 base0 ops lis ms Hf vs t0 listed a w → (List.range ops.size).countP (fun j => !bl listed j) ≤ fuel → wpAny P .any ops Q fuel listed a w := by
  have hvlen := (trace_len htr).1
  rw [mkDs_length] at hvlen
  have hmm := (trace_len htr).2
  rw [mkDs_length, hAt_count (ms := ms) lis.length (Nat.le_refl _)] at hmm
  have closedA : ∀ {listed : Array Bool} {a : Act} {w : World}, Along P ds n c0 base0 ops lis ms Hf vs t0 listed a w → ∀ i, bl listed i = true → ∀ j, An ms i j = true → bl listed j = true := by
    intro listed a w hA i hi j hj
    unfold An at hj
    rw [hd.masks] at hj
    refine closed_of_mask ops.toList [] ?_ ?_ ?_ i hi j hj
    · intro i o ho e he; simpa using hd.edge i o ho e he
    · intro i o ho hL e he; exact hA.closed i o (by simpa using ho) (by simpa using hL) e he
    · intro i hi; simp at hi
  -- all are listed: the end
  have atEnd : ∀ (listed : Array Bool) (a : Act) (w : World), Along P ds n c0 base0 ops lis ms Hf vs t0 listed a w → (∀ j, j < ops.size → bl listed j = true) → Q .normal a w := by
    intro listed a w hA hall
    obtain ⟨t, hst, h1, h2⟩ := hA.st
    have hcnt : hcount lis (bl listed) = m := by
      rw [← hmm, Nat.zero_add]
      refine hcount_congr fun j li hj _ => ?_
      have hjl : j < lis.length := (List.getElem?_eq_some_iff.1 hj).1
      rw [hall j (by omega)]; simp [hjl]
    rw [hcnt] at hst
    have ht : t = tAt (mkDs lis ms) vs t0 lis.length := by
      funext s
      by_cases hex : ∃ (j : Nat) (lj : LIns), lis[j]? = some lj ∧ lj.dst = some s
      · obtain ⟨j, lj, hlj, hs⟩ := hex
        have hjl : j < lis.length := (List.getElem?_eq_some_iff.1 hlj).1
        have hv : vs[j]? = some vs[j] := List.getElem?_eq_getElem (by omega)
        rw [h1 s j lj _ hlj hs hv (hall j (by omega)), tAt_written hd htr _ (Nat.le_refl _) s j lj _ hlj hs hv hjl]
      · rw [h2 s (fun j lj hlj _ hs => hex ⟨j, lj, hlj, hs⟩), tAt_kept htr _ (Nat.le_refl _) s (fun j lj hlj _ hs => hex ⟨j, lj, hlj, hs⟩)]
    subst ht
    exact hQ _ _ _ _ hst hfin
  -- nobody is ready: all are listed
  have noneReady : ∀ (listed : Array Bool) (a : Act) (w : World), Along P ds n c0 base0 ops lis ms Hf vs t0 listed a w → Region.ready .any ops listed = [] → ∀ j, j < ops.size → bl listed j = true := by
    intro listed a w hA hr j
    induction j using Nat.strongRecOn with
    | _ j ih =>
      intro hj
      cases hb : bl listed j with
      | true => rfl
      | false =>
        have : j ∈ Region.ready .any ops listed := by
          rw [mem_ready]
          have hjs : j < listed.size := by rw [hA.size]; exact hj
          refine ⟨?_, ops[j], by simp [hj], fun e he hbd => ?_⟩
          · unfold bl at hb
            simp only [Array.getD, hjs, dif_pos] at hb ⊢
            exact hb
          · have hlt := hd.edge j ops[j] (by simp [hj]) e.on (mem_edges he hbd)
            exact ih e.on hlt (by omega)
        rw [hr] at this; cases this
  intro fuel
  induction fuel with
  | zero =>
    intro listed a w hA hc
    have hall : ∀ j, j < ops.size → bl listed j = true := by
      intro j hj
      have h0 : (List.range ops.size).countP (fun j => !bl listed j) = 0 := by omega
      rw [List.countP_eq_zero] at h0
      have := h0 j (List.mem_range.2 hj)
      simpa using this
    refine ⟨?_, atEnd listed a w hA hall⟩
    cases hr : Region.ready .any ops listed with
    | nil => rfl
    | cons i rest =>
      have hmem : i ∈ Region.ready .any ops listed := by rw [hr]; simp
      rw [mem_ready] at hmem
      obtain ⟨h0, o, ho, _⟩ := hmem
      have hi : i < ops.size := (Array.getElem?_eq_some_iff.1 ho).1
      have hb := hall i hi
      have his : i < listed.size := by rw [hA.size]; exact hi
      unfold bl at hb
      simp only [Array.getD, his, dif_pos] at h0 hb
      rw [h0] at hb; cases hb
  | succ fuel ih =>
    intro listed a w hA hc
    refine ⟨fun hr => atEnd listed a w hA (noneReady listed a w hA hr), fun i hi => ?_⟩
    rw [mem_ready] at hi
    obtain ⟨h0, o, ho, hedges⟩ := hi
    have hi : i < ops.size := (Array.getElem?_eq_some_iff.1 ho).1
    have his : i < listed.size := by rw [hA.size]; exact hi
    have hnb : bl listed i = false := by
      unfold bl; simp only [Array.getD, his, dif_pos] at h0 ⊢; exact h0
    have hil : i < lis.length := by omega
    have hli : lis[i]? = some lis[i] := List.getElem?_eq_getElem hil
    generalize hlg : lis[i] = li at hli
    have hlight : lightIns P n ops o = some li := hl.getBoth (by simpa using ho) hli
    have hdir : ∀ e ∈ edgesOf o, bl listed e = true := fun k hk => by
      obtain ⟨e, he, hb, rfl⟩ := of_mem_edges hk
      exact hedges e he hb
    -- all that i comes behind are listed
    have hanc : ∀ j, An ms i j = true → bl listed j = true := by
      intro j hj
      unfold An at hj
      rw [hd.masks] at hj
      have := closed_of_mask (L := fun k => bl listed k || k == i) ops.toList [] (by intro i o ho e he; simpa using hd.edge i o ho e he)
        (by
          intro k o' ho' hL e he
          simp only [List.length_nil, Nat.zero_add, Bool.or_eq_true, beq_iff_eq] at hL ⊢
          rcases hL with hL | hL
          · exact .inl (hA.closed k o' (by simpa using ho') hL e he)
          · subst hL
            have : o' = o := by have h1 : ops[k]? = some o' := by simpa using ho'
                                rw [ho] at h1; cases h1; rfl
            subst this
            exact .inl (hdir e he))
        (by intro k hk; simp at hk) i (by simp) j hj
      simp only [Bool.or_eq_true, beq_iff_eq] at this
      rcases this with h | h
      · exact h
      · have := mask_lt ops.toList [] (by intro i o ho e he; simpa using hd.edge i o ho e he) (by intro i hi; simp at hi) i j hj
        omega
    obtain ⟨t, hst, h1, h2⟩ := hA.st
    obtain ⟨v, hv, hok⟩ := trace_at htr (mkDs_get (ms := ms) hli)
    rw [Nat.zero_add] at hok
    have agree : ∀ s ∈ rds li, tAt (mkDs lis ms) vs t0 i s = t s := by
      intro s hs
      by_cases hex : ∃ (j : Nat) (lj : LIns), lis[j]? = some lj ∧ lj.dst = some s
      · obtain ⟨j, lj, hlj, hds⟩ := hex
        have hjl : j < lis.length := (List.getElem?_eq_some_iff.1 hlj).1
        have hvj : vs[j]? = some vs[j] := List.getElem?_eq_getElem (by omega)
        rcases hd.reads i j li lj s hli hlj hs hds with ⟨hji, hAij⟩ | ⟨hij, hAji⟩
        · rw [h1 s j lj _ hlj hds hvj (hanc j hAij), tAt_written hd htr i (by omega) s j lj _ hlj hds hvj hji]
        · have hnl : bl listed j ≠ true := fun hb => by have := closedA hA j hb i hAji; rw [hnb] at this; cases this
          rw [h2 s (fun j' lj' hl' hb' hd' => hnl (by have := hd.uniq _ _ _ _ s hl' hlj hd' hds; rw [← this]; exact hb')),
            tAt_kept htr i (by omega) s (fun j' lj' hl' hlt hd' => by have := hd.uniq _ _ _ _ s hl' hlj hd' hds; omega)]
      · rw [h2 s (fun j lj hl _ hs => hex ⟨j, lj, hl, hs⟩), tAt_kept htr i (by omega) s (fun j lj hl _ hs => hex ⟨j, lj, hl, hs⟩)]
    obtain ⟨hcongr, hwant⟩ := ev_slots agree
    -- the heavy ones so far
    have hkm : hcount lis (bl listed) ≤ m := by
      rw [← hmm, Nat.zero_add]
      refine hcount_le fun j lj hlj _ _ => ?_
      have hjl : j < lis.length := (List.getElem?_eq_some_iff.1 hlj).1
      simp [hjl]
    have hheavy : isHeavy li = true → hcount lis (bl listed) = hAt (mkDs lis ms) i := by
      intro hh
      rw [hAt_count (ms := ms) i (by omega)]
      refine hcount_congr fun j lj hlj hhj => ?_
      by_cases hji : j < i
      · rw [hanc j (hd.heavy i j li lj hli hlj hh hhj hji)]; simp [hji]
      · by_cases he : j = i
        · subst he; rw [hnb]; simp
        · have hnl : bl listed j ≠ true := fun hb => by
            have := closedA hA j hb i (hd.heavy j i lj li hlj hli hhj hh (by omega)); rw [hnb] at this; cases this
          cases hb : bl listed j with
          | true => exact absurd hb hnl
          | false => simp [hji]
    have hset : ∀ j, bl (listed.setIfInBounds i true) j = (if j = i then true else bl listed j) := fun j => bl_set his
    have hnext : hcount lis (bl (listed.setIfInBounds i true)) = hcount lis (bl listed) + (if isHeavy li then 1 else 0) := by
      by_cases hh : isHeavy li = true
      · rw [if_pos hh]
        unfold hcount
        have e : (List.range lis.length).countP (fun j => (lis[j]?).any isHeavy && bl (listed.setIfInBounds i true) j) = (List.range lis.length).countP (fun j => ((lis[j]?).any isHeavy && bl listed j) || j == i) := by
          refine List.countP_congr fun j _ => ?_
          rw [hset]
          by_cases hji : j = i
          · subst hji; simp [hli, hh]
          · simp [hji]
        rw [e, countP_range_insert _ i (by simp [hnb]) _, if_pos hil]
      · rw [if_neg hh, Nat.add_zero]
        refine hcount_congr fun j lj hlj hhj => ?_
        rw [hset]
        have : j ≠ i := fun he => by subst he; rw [hli] at hlj; cases hlj; exact hh hhj
        simp [this]
    have hdst := (lightIns_spec hlight).2.2.2
    have nextAlong : ∀ (v' : Value) (w' : World) (H' : Heap), H' = Hf (hcount lis (bl (listed.setIfInBounds i true))) → (∃ ρ, Rep H' ρ w' ∧ c0.le (H'.cx ρ) ∧ H'.base = base0 ∧ TmR (H'.cx ρ) t a.tmps ∧ r3 (H'.cx ρ) v v') →
        wpAny P .any ops Q fuel (listed.setIfInBounds i true) (a.put o.dst v') w' := by
      rintro v' w' H' rfl ⟨ρ, hR, hle, hb, ht, hr⟩
      refine ih _ _ _ ⟨by simp [hA.size], ?_, ?_⟩ ?_
      · intro k o' ho' hL e he
        rw [hset] at hL ⊢
        by_cases hki : k = i
        · subst hki
          rw [ho] at ho'; cases ho'
          have := hdir e he
          split
          · rfl
          · exact this
        · rw [if_neg hki] at hL
          have := hA.closed k o' ho' hL e he
          split
          · rfl
          · exact this
      · refine ⟨put t li.dst v, ⟨by rw [put_defers']; exact hst.defers, by rw [put_size]; exact hst.size, ρ, hR, hle, hb, by rw [hdst]; exact ht.put hr _⟩, ?_, ?_⟩
        · intro s j lj u hlj hds hu hL
          rw [hset] at hL
          by_cases hji : j = i
          · subst hji
            rw [hli] at hlj; cases hlj
            rw [hv] at hu; cases hu
            simp [put, hds]
          · rw [if_neg hji] at hL
            have hne : li.dst ≠ some s := fun he => hji (hd.uniq _ _ _ _ s hlj hli hds he)
            have := h1 s j lj u hlj hds hu hL
            unfold put
            cases hdd : li.dst with
            | none => exact this
            | some d => simp only; rw [if_neg (fun he => hne (by rw [hdd, he]))]; exact this
        · intro s hs
          have hne : li.dst ≠ some s := hs i li hli (by rw [hset]; simp)
          have := h2 s (fun j lj hlj hL => hs j lj hlj (by rw [hset]; split <;> first | rfl | exact hL))
          unfold put
          cases hdd : li.dst with
          | none => exact this
          | some d => simp only; rw [if_neg (fun he => hne (by rw [hdd, he]))]; exact this
      · -- one fewer is left
        have e : (List.range ops.size).countP (fun j => !bl listed j) = (List.range ops.size).countP (fun j => (!bl (listed.setIfInBounds i true) j) || j == i) := by
          refine List.countP_congr fun j _ => ?_
          rw [hset]
          by_cases hji : j = i
          · subst hji; simp [hnb]
          · simp [hji]
        rw [e, countP_range_insert _ i (by rw [hset]; simp) _, if_pos hi] at hc
        omega
    unfold wpOp
    simp only [ho]
    obtain ⟨hdef, hsz, ρ, hR, hle, hb, ht⟩ := hst
    rw [wanted_eq hlight hsz ht, ← hwant]
    unfold DOk at hok
    have hins : (mkD lis ms i li).ins = li := rfl
    rw [hins] at hok
    by_cases hg : wantedL li.guard (tAt (mkDs lis ms) vs t0 i) = true
    · rw [if_pos hg] at hok
      rw [if_pos hg]
      -- the operation is done in the heap that stands now
      obtain ⟨H', hH', hdo⟩ : ∃ H', H' = Hf (hcount lis (bl (listed.setIfInBounds i true))) ∧ Do P t (Hf (hcount lis (bl listed))) li.op v H' := by
        rw [hnext]
        refine ⟨_, rfl, ?_⟩
        have hkind : (mkD lis ms i li).kind = kindOf li.op := rfl
        rw [hkind] at hok
        cases hk : kindOf li.op with
        | pure =>
          simp only [hk] at hok
          have hh : isHeavy li = false := by simp [isHeavy, hk]
          simp only [hh, Bool.false_eq_true, if_false, Nat.add_zero]
          exact Do_congr hcongr (hok _ hkm)
        | read =>
          simp only [hk] at hok
          have hh : isHeavy li = false := by simp [isHeavy, hk]
          simp only [hh, Bool.false_eq_true, if_false, Nat.add_zero]
          refine Do_congr hcongr (hok _ ?_ ?_ hkm)
          · exact hcount_le (lis := lis) (L := fun j => An ms i j) (M := bl listed) (fun j lj _ _ hj => hanc j hj)
          · exact hcount_le (lis := lis) (L := bl listed) (M := fun j => !An ms j i) (fun j lj _ _ hj => by
              cases hAn : An ms j i with
              | false => rfl
              | true => have := closedA hA j hj i hAn; rw [hnb] at this; cases this)
        | heavy =>
          simp only [hk] at hok
          have hh : isHeavy li = true := by simp [isHeavy, hk]
          rw [hheavy hh, if_pos hh]
          exact Do_congr hcongr hok
      refine .inl (do_sound hlight hdo hR hsz ht (Q := Q) ?_)
      intro ρ' v' w' hR' hle' hr
      exact nextAlong v' w' H' hH' ⟨ρ', hR', hle.trans hle', by rw [do_base hdo]; exact hb, ht.mono hle', hr⟩
    · rw [if_neg hg] at hok
      rw [if_neg hg]
      obtain ⟨rfl, hsk⟩ := hok
      refine nextAlong undef w _ rfl ?_
      have hsame : Hf (hcount lis (bl (listed.setIfInBounds i true))) = Hf (hcount lis (bl listed)) := by
        rw [hnext]
        by_cases hh : isHeavy li = true
        · rw [if_pos hh, hheavy hh]
          exact hsk (by simpa [isHeavy, mkD] using hh)
        · rw [if_neg hh]; rfl
      rw [hsame]
      exact ⟨ρ, hR, hle, hb, ht, undef_rel _⟩
end
/-! ### heavy operations that are not all ordered -/

/-- No call is begun. -/
def plainR : Result Next → Bool
  | .ok (.enter _ _) _ => false
  | .ok (.row _ _) _ => false
  | _ => true
theorem upon_all {α : Type} {P : Program} {o : Oper} {a : Act} {Q : Exit → Act → World → Prop} {S : List α} (hS : ∃ s, s ∈ S) {K : α → Act → World → Prop} {r : Result Next} (hr : plainR r = true) (h : ∀ s ∈ S, o.upon P a (K s) Q r) :
    o.upon P a (fun a w => ∀ s ∈ S, K s a w) Q r := by
  obtain ⟨s0, hs0⟩ := hS
  cases r with
  | ok n w' => cases n <;> simp only [Oper.upon] at h ⊢ <;> first | exact h | exact h s0 hs0 | cases hr
  | halt x w' => cases x <;> simp only [Oper.upon] at h ⊢ <;> exact h s0 hs0
/-- The same operations, in other places. -/
structure Alt (ops ops' : Array Oper) (pos : Nat → Nat) : Prop where
  size : ops'.size = ops.size
  lt : ∀ i, i < ops.size → pos i < ops.size
  inj : ∀ i j, i < ops.size → j < ops.size → pos i = pos j → i = j
  onto : ∀ k, k < ops.size → ∃ i, i < ops.size ∧ pos i = k
  guard : ∀ (i : Nat) (o : Oper), ops[i]? = some o → ∀ g : Nat × Bool, o.guard = some g → g.1 < ops.size
  same : ∀ (i : Nat) (o : Oper), ops[i]? = some o → ∃ after, ops'[pos i]? = some { o with after := after, guard := o.guard.map fun g => (pos g.1, g.2) }
theorem alt_yielded {ops ops' : Array Oper} {pos : Nat → Nat} (h : Alt ops ops' pos) (tmps : Array Value) {j : Nat} (hj : j < ops.size) : yielded ops' tmps (pos j) = yielded ops tmps j := by
  have ho : ops[j]? = some ops[j] := Array.getElem?_eq_getElem hj
  obtain ⟨after, hs⟩ := h.same j _ ho
  unfold Go.yielded
  rw [hs, ho]
  rfl
theorem alt_wanted {ops ops' : Array Oper} {pos : Nat → Nat} (h : Alt ops ops' pos) (tmps : Array Value) {i : Nat} {o : Oper} (ho : ops[i]? = some o) (after : Array Edge) :
    Region.wanted { o with after := after, guard := o.guard.map fun g => (pos g.1, g.2) } (yielded ops' tmps) = Region.wanted o (yielded ops tmps) := by
  unfold Region.wanted
  cases hg : o.guard with
  | none => rfl
  | some g =>
    obtain ⟨j, b⟩ := g
    simp only [Option.map_some]
    rw [alt_yielded h tmps (h.guard i o ho (j, b) hg)]
theorem wpOp_all {α : Type} {P : Program} {ops : Array Oper} {Q : Exit → Act → World → Prop} {S : List α} (hS : ∃ s, s ∈ S) {opsOf : α → Array Oper} {pos : α → Nat → Nat} (hA : ∀ s ∈ S, Alt ops (opsOf s) (pos s)) {K : α → Act → World → Prop} {i : Nat} {o : Oper}
    (ho : ops[i]? = some o) {a : Act} {w : World} (hp : plainR ((execOp a.eval o).run P w) = true) (h : ∀ s ∈ S, wpOp P (opsOf s) Q (pos s i) (K s) a w) : wpOp P ops Q i (fun a w => ∀ s ∈ S, K s a w) a w := by
  have h' : ∀ s ∈ S, if Region.wanted o (yielded ops a.tmps) then o.wp P a w (K s) Q ∨ (o.asks P a w ∧ LetsOut Q) else K s (a.put o.dst undef) w := by
    intro s hs
    have := h s hs
    obtain ⟨after, ha⟩ := (hA s hs).same i o ho
    unfold wpOp at this
    rw [ha] at this
    simp only at this
    rw [alt_wanted (hA s hs) a.tmps ho after] at this
    exact this
  unfold wpOp
  rw [ho]
  simp only
  by_cases hw : Region.wanted o (yielded ops a.tmps) = true
  · rw [if_pos hw]
    by_cases hl : o.asks P a w ∧ LetsOut Q
    · exact .inr hl
    · refine .inl (upon_all hS hp fun s hs => ?_)
      have := h' s hs
      rw [if_pos hw] at this
      exact this.resolve_right hl
  · rw [if_neg hw]
    intro s hs
    have := h' s hs
    rw [if_neg hw] at this
    exact this
theorem wpOp_one {P : Program} {ops : Array Oper} {Q : Exit → Act → World → Prop} {ops' : Array Oper} {pos : Nat → Nat} (hA : Alt ops ops' pos) {K : Act → World → Prop} {i : Nat} {o : Oper}
    (ho : ops[i]? = some o) {a : Act} {w : World} (h : wpOp P ops' Q (pos i) K a w) : wpOp P ops Q i K a w := by
  obtain ⟨after, ha⟩ := hA.same i o ho
  unfold wpOp at h ⊢
  rw [ha] at h
  rw [ho]
  simp only at h ⊢
  rw [alt_wanted hA a.tmps ho after] at h
  exact h
/-- p stands ahead of i. -/
def Ahead (l : List Nat) (p i : Nat) : Prop := ∃ l1 l2, l = l1 ++ i :: l2 ∧ p ∈ l1
theorem ahead_hist {l h : List Nat} {p i : Nat} (hn : l.Nodup) (hp : (h ++ [i]) <+: l) (ha : Ahead l p i) : p ∈ h := by
  obtain ⟨r, hr⟩ := hp
  obtain ⟨l1, l2, e, hm⟩ := ha
  have e1 : h ++ i :: r = l := by rw [← hr]; simp
  rw [← e1] at e hn
  -- the place of i is one
  have key : ∀ (a b c d : List Nat), a ++ i :: b = c ++ i :: d → (a ++ i :: b).Nodup → a = c := by
    intro a
    induction a with
    | nil =>
      intro b c d h hn
      cases c with
      | nil => rfl
      | cons y c =>
        simp only [List.nil_append, List.cons_append, List.cons.injEq] at h
        obtain ⟨rfl, h⟩ := h
        simp only [List.nil_append, List.nodup_cons] at hn
        exact absurd (by rw [h]; simp) hn.1
    | cons x a ih =>
      intro b c d h hn
      cases c with
      | nil =>
        simp only [List.cons_append, List.nil_append, List.cons.injEq] at h
        obtain ⟨rfl, h⟩ := h
        simp only [List.cons_append, List.nodup_cons] at hn
        exact absurd (by simp) hn.1
      | cons y c =>
        simp only [List.cons_append, List.cons.injEq] at h
        obtain ⟨rfl, h⟩ := h
        simp only [List.cons_append, List.nodup_cons] at hn
        rw [ih b c d h hn.2]
  rw [key h r l1 l2 e hn]
  exact hm
/-- A complete set of orders. -/
structure Alts {α : Type} (P : Program) (ops : Array Oper) (S0 : List α) (opsOf : α → Array Oper) (pos : α → Nat → Nat) (ord : α → List Nat) (heavy : Nat → Bool) (anc : Nat → Nat → Bool) : Prop where
  alt : ∀ s ∈ S0, Alt ops (opsOf s) (pos s)
  lt : ∀ (i : Nat) (o : Oper), ops[i]? = some o → ∀ e ∈ edgesOf o, e < i
  edges : ∀ s ∈ S0, ∀ (i : Nat) (o o' : Oper), ops[i]? = some o → (opsOf s)[pos s i]? = some o' → ∀ e' ∈ edgesOf o', (∃ e ∈ edgesOf o, e' = pos s e) ∨ (heavy i = true ∧ ∃ p, p < ops.size ∧ heavy p = true ∧ e' = pos s p ∧ Ahead (ord s) p i)
  nodup : ∀ s ∈ S0, (ord s).Nodup
  anc_of : ∀ (i : Nat) (L : Nat → Bool), i < ops.size → (∀ (j : Nat) (o : Oper), ops[j]? = some o → (L j = true ∨ j = i) → ∀ e ∈ edgesOf o, L e = true) → ∀ j, anc i j = true → L j = true
  full : ∀ (h : List Nat) (i : Nat), (∃ s ∈ S0, h <+: ord s) → i < ops.size → heavy i = true → i ∉ h → (∀ j, j < ops.size → heavy j = true → anc i j = true → j ∈ h) → ∃ s ∈ S0, (h ++ [i]) <+: ord s
  plain : ∀ (i : Nat) (o : Oper), ops[i]? = some o → (∀ (a : Act) (w : World), plainR ((execOp a.eval o).run P w) = true) ∨ (heavy i = true ∧ ∀ (h : List Nat), ∀ s ∈ S0, ∀ s' ∈ S0, (h ++ [i]) <+: ord s → (h ++ [i]) <+: ord s' → s = s')
theorem wpAny_alts {α : Type} {P : Program} {ops : Array Oper} {S0 : List α} {opsOf : α → Array Oper} {pos : α → Nat → Nat} {ord : α → List Nat} {heavy : Nat → Bool} {anc : Nat → Nat → Bool} (hA : Alts P ops S0 opsOf pos ord heavy anc) {Q : Exit → Act → World → Prop} :
    ∀ (fuel : Nat) (S : List α) (h : List Nat) (listed : Array Bool) (ls : α → Array Bool) (a : Act) (w : World), (∃ s, s ∈ S) → (∀ s ∈ S, s ∈ S0 ∧ h <+: ord s) → (∀ s ∈ S0, h <+: ord s → s ∈ S) → listed.size = ops.size →
      (∀ s ∈ S, (ls s).size = ops.size ∧ ∀ i, i < ops.size → bl (ls s) (pos s i) = bl listed i) → (∀ i, i < ops.size → heavy i = true → (bl listed i = true ↔ i ∈ h)) → (∀ i o, ops[i]? = some o → bl listed i = true → ∀ e ∈ edgesOf o, bl listed e = true) →
      (List.range ops.size).countP (fun j => !bl listed j) ≤ fuel →
      (∀ s ∈ S, wpAny P .any (opsOf s) Q fuel (ls s) a w) → wpAny P .any ops Q fuel listed a w := by
  -- nobody is ready: all are listed
  have noneReady : ∀ (listed : Array Bool), listed.size = ops.size → Region.ready .any ops listed = [] → ∀ j, j < ops.size → bl listed j = true := by
    intro listed hsz hr j
    induction j using Nat.strongRecOn with
    | _ j ih =>
      intro hj
      cases hb : bl listed j with
      | true => rfl
      | false =>
        have : j ∈ Region.ready .any ops listed := by
          rw [mem_ready]
          have hjs : j < listed.size := by rw [hsz]; exact hj
          refine ⟨?_, ops[j], by simp [hj], fun e he hbd => ?_⟩
          · unfold bl at hb
            simp only [Array.getD, hjs, dif_pos] at hb ⊢
            exact hb
          · have hlt := hA.lt j ops[j] (by simp [hj]) e.on (mem_edges he hbd)
            exact ih e.on hlt (by omega)
        rw [hr] at this; cases this
  have altNone : ∀ (s : α) (listed : Array Bool) (l : Array Bool), s ∈ S0 → l.size = ops.size → (∀ i, i < ops.size → bl l (pos s i) = bl listed i) → (∀ j, j < ops.size → bl listed j = true) → Region.ready .any (opsOf s) l = [] := by
    intro s listed l hs hsz hl hall
    cases hr : Region.ready .any (opsOf s) l with
    | nil => rfl
    | cons k rest =>
      have hmem : k ∈ Region.ready .any (opsOf s) l := by rw [hr]; simp
      rw [mem_ready] at hmem
      obtain ⟨h0, o, ho, _⟩ := hmem
      have hk : k < (opsOf s).size := (Array.getElem?_eq_some_iff.1 ho).1
      rw [(hA.alt s hs).size] at hk
      obtain ⟨i, hi, rfl⟩ := (hA.alt s hs).onto k hk
      have := hl i hi
      rw [hall i hi] at this
      have hks : pos s i < l.size := by rw [hsz]; exact hk
      unfold bl at this
      simp only [Array.getD, hks, dif_pos] at h0 this
      rw [h0] at this; cases this
  intro fuel
  induction fuel with
  | zero =>
    intro S h listed ls a w hne hS hS2 hsz hls hh hcl hcnt hw
    obtain ⟨s, hs⟩ := hne
    have hall : ∀ j, j < ops.size → bl listed j = true := by
      intro j hj
      have h0 : (List.range ops.size).countP (fun j => !bl listed j) = 0 := by omega
      rw [List.countP_eq_zero] at h0
      have := h0 j (List.mem_range.2 hj)
      simpa using this
    refine ⟨?_, (hw s hs).2⟩
    cases hr : Region.ready .any ops listed with
    | nil => rfl
    | cons i rest =>
      have hmem : i ∈ Region.ready .any ops listed := by rw [hr]; simp
      rw [mem_ready] at hmem
      obtain ⟨h0, o, ho, _⟩ := hmem
      have hi : i < ops.size := (Array.getElem?_eq_some_iff.1 ho).1
      have hb := hall i hi
      have his : i < listed.size := by rw [hsz]; exact hi
      unfold bl at hb
      simp only [Array.getD, his, dif_pos] at h0 hb
      rw [h0] at hb; cases hb
  | succ fuel ih =>
    intro S h listed ls a w hne hS hS2 hsz hls hh hcl hcnt hw
    obtain ⟨s0, hs0⟩ := hne
    refine ⟨fun hr => ?_, fun i hi => ?_⟩
    · exact (hw s0 hs0).1 (altNone s0 listed (ls s0) (hS s0 hs0).1 (hls s0 hs0).1 (hls s0 hs0).2 (noneReady listed hsz hr))
    · rw [mem_ready] at hi
      obtain ⟨h0, o, ho, hedges⟩ := hi
      have hi : i < ops.size := (Array.getElem?_eq_some_iff.1 ho).1
      have his : i < listed.size := by rw [hsz]; exact hi
      have hnb : bl listed i = false := by
        unfold bl; simp only [Array.getD, his, dif_pos] at h0 ⊢; exact h0
      have hdir : ∀ e ∈ edgesOf o, bl listed e = true := fun k hk => by
        obtain ⟨e, he, hb, rfl⟩ := of_mem_edges hk
        exact hedges e he hb
      have hset : ∀ j, bl (listed.setIfInBounds i true) j = (if j = i then true else bl listed j) := fun j => bl_set his
      -- those orders that go on with i
      obtain ⟨S', h', hS'1, hS'2, hS'3, hS'4, hheavy⟩ : ∃ (S' : List α) (h' : List Nat), (∃ s, s ∈ S') ∧ (∀ s ∈ S', s ∈ S ∧ h' <+: ord s) ∧ (∀ s ∈ S0, h' <+: ord s → s ∈ S') ∧ (∀ j, j < ops.size → heavy j = true → (bl (listed.setIfInBounds i true) j = true ↔ j ∈ h')) ∧ (heavy i = true → h' = h ++ [i]) := by
        by_cases hv : heavy i = true
        · have hni : i ∉ h := fun hm => by have := (hh i hi hv).2 hm; rw [hnb] at this; cases this
          obtain ⟨s1, hs1, hp1⟩ := hA.full h i ⟨s0, (hS s0 hs0).1, (hS s0 hs0).2⟩ hi hv hni (fun j hj hjv hja => by
            refine (hh j hj hjv).1 ?_
            refine hA.anc_of i (bl listed) hi (fun k o' ho' hk e he => ?_) j hja
            rcases hk with hk | rfl
            · exact hcl k o' ho' hk e he
            · rw [ho] at ho'; cases ho'; exact hdir e he)
          have hpre : ∀ s, (h ++ [i]) <+: ord s → h <+: ord s := fun s hp => (List.prefix_append h [i]).trans hp
          refine ⟨S.filter (fun s => (h ++ [i]).isPrefixOf (ord s)), h ++ [i], ⟨s1, ?_⟩, ?_, ?_, ?_, fun _ => rfl⟩
          · rw [List.mem_filter]
            exact ⟨hS2 s1 hs1 (hpre s1 hp1), by rw [List.isPrefixOf_iff_prefix]; exact hp1⟩
          · intro s hs
            rw [List.mem_filter, List.isPrefixOf_iff_prefix] at hs
            exact hs
          · intro s hs hp
            rw [List.mem_filter, List.isPrefixOf_iff_prefix]
            exact ⟨hS2 s hs (hpre s hp), hp⟩
          · intro j hj hjv
            rw [hset]
            by_cases hji : j = i
            · subst hji; simp
            · simp only [hji, if_false, List.mem_append, List.mem_singleton, or_false]
              exact hh j hj hjv
        · refine ⟨S, h, ⟨s0, hs0⟩, fun s hs => ⟨hs, (hS s hs).2⟩, hS2, fun j hj hjv => ?_, fun hv' => absurd hv' hv⟩
          rw [hset]
          have hji : j ≠ i := fun e => hv (by rw [← e]; exact hjv)
          simp only [hji, if_false]
          exact hh j hj hjv
      have hop : ∀ s ∈ S', wpOp P (opsOf s) Q (pos s i) (wpAny P .any (opsOf s) Q fuel ((ls s).setIfInBounds (pos s i) true)) a w := by
        intro s hs
        have hsS := (hS'2 s hs).1
        have hs0' := (hS s hsS).1
        have hal := hA.alt s hs0'
        refine (hw s hsS).2 (pos s i) ?_
        rw [mem_ready]
        have hps : pos s i < (ls s).size := by rw [(hls s hsS).1]; exact hal.lt i hi
        obtain ⟨after, hat⟩ := hal.same i o ho
        refine ⟨?_, _, hat, fun e he hb => ?_⟩
        · have := (hls s hsS).2 i hi
          rw [hnb] at this
          unfold bl at this
          simp only [Array.getD, hps, dif_pos] at this ⊢
          exact this
        · have hlisted : ∀ p, p < ops.size → bl listed p = true → (ls s).getD (pos s p) false = true := fun p hp hbp => by
            have := (hls s hsS).2 p hp
            rw [hbp] at this
            exact this
          rcases hA.edges s hs0' i o _ ho hat e.on (mem_edges he hb) with ⟨e1, he1, e2⟩ | ⟨hv, p, hp, hpv, e2, hah⟩
          · rw [e2]
            exact hlisted e1 (by have := hA.lt i o ho e1 he1; omega) (hdir e1 he1)
          · rw [e2]
            have hpre := (hS'2 s hs).2
            rw [hheavy hv] at hpre
            have hph := ahead_hist (hA.nodup s hs0') hpre hah
            exact hlisted p hp ((hh p hp hpv).2 hph)
      have hall : wpOp P ops Q i (fun a w => ∀ s ∈ S', wpAny P .any (opsOf s) Q fuel ((ls s).setIfInBounds (pos s i) true) a w) a w := by
        rcases hA.plain i o ho with hpl | ⟨hv, huniq⟩
        · exact wpOp_all hS'1 (opsOf := opsOf) (pos := pos) (fun s hs => hA.alt s (hS s (hS'2 s hs).1).1) ho (hpl a w) hop
        · obtain ⟨s1, hs1⟩ := hS'1
          have e := hheavy hv
          refine wpOp_mono (fun a' w' hk s hs => ?_) (wpOp_one (hA.alt s1 (hS s1 (hS'2 s1 hs1).1).1) ho (hop s1 hs1))
          have hss : s = s1 := huniq h s (hS s (hS'2 s hs).1).1 s1 (hS s1 (hS'2 s1 hs1).1).1 (by rw [← e]; exact (hS'2 s hs).2) (by rw [← e]; exact (hS'2 s1 hs1).2)
          rw [hss]; exact hk
      refine wpOp_mono (fun a' w' hk => ?_) hall
      refine ih S' h' (listed.setIfInBounds i true) (fun s => (ls s).setIfInBounds (pos s i) true) a' w' hS'1 (fun s hs => ⟨(hS s (hS'2 s hs).1).1, (hS'2 s hs).2⟩) hS'3 (by simp [hsz]) (fun s hs => ?_) hS'4 ?_ ?_ hk
      · have hsS := (hS'2 s hs).1
        have hal := hA.alt s (hS s hsS).1
        have hps : pos s i < (ls s).size := by rw [(hls s hsS).1]; exact hal.lt i hi
        refine ⟨by simp [(hls s hsS).1], fun j hj => ?_⟩
        rw [bl_set hps, hset]
        by_cases hji : j = i
        · subst hji; simp
        · have : pos s j ≠ pos s i := fun e => hji (hal.inj j i hj hi e)
          rw [if_neg this, if_neg hji]
          exact (hls s hsS).2 j hj
      · intro k o' ho' hL e he
        rw [hset] at hL ⊢
        by_cases hki : k = i
        · subst hki
          rw [ho] at ho'; cases ho'
          have := hdir e he
          split
          · rfl
          · exact this
        · rw [if_neg hki] at hL
          have := hcl k o' ho' hL e he
          split
          · rfl
          · exact this
      · have e : (List.range ops.size).countP (fun j => !bl listed j) = (List.range ops.size).countP (fun j => (!bl (listed.setIfInBounds i true) j) || j == i) := by
          refine List.countP_congr fun j _ => ?_
          rw [hset]
          by_cases hji : j = i
          · subst hji; simp [hnb]
          · simp [hji]
        rw [e, countP_range_insert _ i (by rw [hset]; simp) _, if_pos hi] at hcnt
        omega
/-- Operations that begin no call. -/
def plainOp (o : Oper) : Bool := match o.op with
  | .move _ | .assign _ | .pick _ _ _ | .alloc _ | .box _ _ | .build _ _ | .buildSlice _ _ _ | .load _ _ | .store _ _ _ | .binOp _ _ _ _ _ | .unOp _ _ _ | .convert _ _ _ | .slice _ _ _ _ _ | .fieldAddr _ _ _ | .field _ _ _ | .indexAddr _ _ _ | .index _ _ _ | .extract _ _
  | .makeSlice _ _ _ | .makeMap _ _ | .lookup _ _ _ _ | .mapUpdate _ _ _ _ | .insert _ _ _ _ | .mapEntry _ _ _ | .entryStore _ _ _ _ | .typeAssert _ _ _ _ | .makeInterface _ _ | .makeFunc _ _ _ | .nilCheck _ => true
  | .call c => match c.callee with
    | .builtin .append | .builtin .copy | .builtin .len | .builtin .cap | .builtin .min | .builtin .max | .builtin .delete | .builtin .clear => true
    | _ => false
  | _ => false
theorem plain_v {P : Program} {w : World} (s : Sem Value) : plainR ((do pure (Next.value (← s)) : Sem Next).run P w) = true := by
  simp only [Sem.run_bind]
  cases s.run P w <;> rfl
theorem plain_u {P : Program} {w : World} (s : Sem Unit) : plainR ((do s; pure Next.skip : Sem Next).run P w) = true := by
  simp only [Sem.run_bind]
  cases s.run P w <;> rfl
theorem plain_b {P : Program} {w : World} (s : Sem Bool) (x y : Value) : plainR ((do pure (Next.value (if ← s then x else y)) : Sem Next).run P w) = true := by
  simp only [Sem.run_bind]
  cases s.run P w <;> rfl
theorem plainOp_ok {P : Program} {o : Oper} (h : plainOp o = true) (a : Act) (w : World) : plainR ((execOp a.eval o).run P w) = true := by
  obtain ⟨dst, op, type, pos, after, guard⟩ := o
  cases op
  case call c =>
    simp only [plainOp] at h
    simp only [execOp, resolve]
    obtain ⟨callee, args, at'⟩ := c
    simp only at h ⊢
    cases callee with
    | builtin b =>
      simp only at h ⊢
      cases b <;> simp only at h <;> (try (cases h; done)) <;> simp only [pure_bind, invoke, builtin] <;> exact plain_v _
    | invoke _ _ => cases h
    | value _ => cases h
  case nilCheck x =>
    simp only [execOp]
    split <;> first | rfl | skip
    split <;> first | rfl | skip
    · simp only [Sem.run_bind]
      generalize (program.run P w) = r0
      cases r0 with
      | halt x w => rfl
      | ok p w1 =>
        simp only [Result.andThen_ok]
        generalize (Sem.run P (nilAhead _ _ _ _) w1) = r1
        cases r1 with
        | halt x w => rfl
        | ok b w2 =>
          simp only [Result.andThen_ok]
          split
          · simp [unsupported]; rfl
          · rfl
  all_goals first | (exfalso; simp [plainOp] at h; done) | (simp only [execOp]; first | exact plain_v _ | exact plain_u _ | exact plain_b _ _ _ | rfl)


def heavyAt (lis : List LIns) (i : Nat) : Bool := (lis[i]?).any isHeavy
def heavies (lis : List LIns) : List Nat := (List.range lis.length).filter (heavyAt lis)
/-- All orders of these under what comes behind what. -/
def exts (ms : List Nat) : Nat → List Nat → List (List Nat)
  | 0, _ => [[]]
  | k + 1, r => if r.isEmpty then [[]] else r.flatMap fun i => if r.all (fun j => j == i || !An ms i j) then (exts ms k (r.erase i)).map (i :: ·) else []
/-- One listing of all operations in which the heavy ones stand so. -/
def listing (es : List (List Nat)) (hv : Nat → Bool) : Nat → List Nat → List Nat → List Nat
  | 0, done, _ => done
  | k + 1, done, o =>
    match (List.range es.length).find? (fun i => !done.contains i && (es.getD i []).all (fun e => done.contains e) && (!hv i || o.head? == some i)) with
    | some i => listing es hv k (done ++ [i]) (if hv i then o.tail else o)
    | none => done
def prevOf : List Nat → Nat → Option Nat
  | p :: q :: r, i => if q == i then some p else prevOf (q :: r) i
  | _, _ => none
def newEdges (ops : Array Oper) (pi o : List Nat) (i : Nat) : List Nat :=
  (match ops[i]? with | some x => (edgesOf x).map (fun e => pi.idxOf e) | none => []) ++ (match prevOf o i with | some p => [pi.idxOf p] | none => [])
def mkOper (ops : Array Oper) (pi o : List Nat) (i : Nat) (x : Oper) : Oper :=
  { x with after := ((newEdges ops pi o i).map fun e => (⟨e, .data⟩ : Edge)).toArray, guard := x.guard.map fun g => (pi.idxOf g.1, g.2) }
def mkOps (ops : Array Oper) (pi o : List Nat) : Array Oper := (pi.filterMap fun i => (ops[i]?).map (mkOper ops pi o i)).toArray
theorem edges_mk (ops : Array Oper) (pi o : List Nat) (i : Nat) (x : Oper) : edgesOf (mkOper ops pi o i x) = newEdges ops pi o i := by
  simp only [edgesOf, mkOper]
  generalize newEdges ops pi o i = l
  induction l with
  | nil => rfl
  | cons a l ih =>
    simp only [List.map_cons, List.filter_cons]
    rw [if_pos (by rfl)]
    simp only [List.map_cons]
    rw [ih]
/-- What is asked of a listing. -/
def permOk (ops : Array Oper) (pi : List Nat) : Bool :=
  pi.length == ops.size && (List.range ops.size).all (fun i => pi.contains i) && pi.all (fun i => decide (i < ops.size)) && decide pi.Nodup &&
  (List.range ops.size).all (fun i => match ops[i]? with | some x => (match x.guard with | some g => decide (g.1 < ops.size) | none => true) | none => true)
theorem alt_of {ops : Array Oper} {pi o : List Nat} (h : permOk ops pi = true) : Alt ops (mkOps ops pi o) (fun i => pi.idxOf i) := by
  simp only [permOk, Bool.and_eq_true, beq_iff_eq, List.all_eq_true, List.mem_range, decide_eq_true_eq, List.contains_iff_mem] at h
  obtain ⟨⟨⟨⟨hl, hc⟩, hlt⟩, hn⟩, hg⟩ := h
  have hsz : (mkOps ops pi o).toList = pi.filterMap fun i => (ops[i]?).map (mkOper ops pi o i) := by simp [mkOps]
  have hfm : ∀ l : List Nat, (∀ i ∈ l, i < ops.size) → (l.filterMap fun i => (ops[i]?).map (mkOper ops pi o i)).length = l.length ∧ ∀ k : Nat, (l.filterMap fun i => (ops[i]?).map (mkOper ops pi o i))[k]? = (l[k]?).bind fun i => (ops[i]?).map (mkOper ops pi o i) := by
    intro l
    induction l with
    | nil => intro _; exact ⟨rfl, fun k => by simp⟩
    | cons a l ih =>
      intro hl
      obtain ⟨h1, h2⟩ := ih (fun i hi => hl i (by simp [hi]))
      have ha : ops[a]? = some (ops[a]'(hl a (by simp))) := Array.getElem?_eq_getElem (hl a (by simp))
      rw [List.filterMap_cons, ha]
      simp only [Option.map_some]
      refine ⟨by simp [h1], fun k => ?_⟩
      cases k with
      | zero => simp [ha]
      | succ k => simpa using h2 k
  obtain ⟨hlen, hget⟩ := hfm pi hlt
  have hsize : (mkOps ops pi o).size = ops.size := by
    rw [← Array.length_toList, hsz, hlen, hl]
  have hidx : ∀ i, i < ops.size → pi.idxOf i < pi.length := fun i hi => List.idxOf_lt_length_of_mem (hc i hi)
  have hat : ∀ i (hi : i < ops.size), pi[pi.idxOf i]? = some i := fun i hi => by
    rw [List.getElem?_eq_getElem (hidx i hi)]
    congr 1
    exact List.getElem_idxOf (hidx i hi)
  refine ⟨hsize, fun i hi => by rw [← hl]; exact hidx i hi, fun i j hi hj e => ?_, fun k hk => ?_, fun i x hx g hgx => ?_, fun i x hx => ?_⟩
  · have h1 := hat i hi
    have h2 := hat j hj
    have e' : pi.idxOf i = pi.idxOf j := e
    rw [e', h2] at h1
    exact (Option.some.inj h1).symm
  · have hkl : k < pi.length := by omega
    refine ⟨pi[k], hlt _ (List.getElem_mem hkl), ?_⟩
    exact List.Nodup.idxOf_getElem hn k hkl
  · have hi : i < ops.size := (Array.getElem?_eq_some_iff.1 hx).1
    have := hg i hi
    rw [hx] at this
    simp only [hgx] at this
    simpa using this
  · have hi : i < ops.size := (Array.getElem?_eq_some_iff.1 hx).1
    refine ⟨((newEdges ops pi o i).map fun e => (⟨e, .data⟩ : Edge)).toArray, ?_⟩
    rw [← Array.getElem?_toList, hsz, hget, hat i hi]
    simp only [Option.bind_some, hx, Option.map_some]
    rfl
theorem mk_at {ops : Array Oper} {pi o : List Nat} (h : permOk ops pi = true) {i : Nat} {x x' : Oper} (hx : ops[i]? = some x) (hx' : (mkOps ops pi o)[pi.idxOf i]? = some x') : x' = mkOper ops pi o i x := by
  simp only [permOk, Bool.and_eq_true, beq_iff_eq, List.all_eq_true, List.mem_range, decide_eq_true_eq, List.contains_iff_mem] at h
  obtain ⟨⟨⟨⟨hl, hc⟩, hlt⟩, hn⟩, hg⟩ := h
  have hi : i < ops.size := (Array.getElem?_eq_some_iff.1 hx).1
  have hfm : ∀ l : List Nat, (∀ i ∈ l, i < ops.size) → ∀ k : Nat, (l.filterMap fun i => (ops[i]?).map (mkOper ops pi o i))[k]? = (l[k]?).bind fun i => (ops[i]?).map (mkOper ops pi o i) := by
    intro l
    induction l with
    | nil => intro _ k; simp
    | cons a l ih =>
      intro hl k
      have h2 := ih (fun i hi => hl i (by simp [hi]))
      have ha : ops[a]? = some (ops[a]'(hl a (by simp))) := Array.getElem?_eq_getElem (hl a (by simp))
      rw [List.filterMap_cons, ha]
      simp only [Option.map_some]
      cases k with
      | zero => simp [ha]
      | succ k => simpa using h2 k
  have hat : pi[pi.idxOf i]? = some i := by
    have hlen := List.idxOf_lt_length_of_mem (hc i hi)
    rw [List.getElem?_eq_getElem hlen]
    congr 1
    exact List.getElem_idxOf hlen
  have hsz : (mkOps ops pi o).toList = pi.filterMap fun i => (ops[i]?).map (mkOper ops pi o i) := by simp [mkOps]
  rw [← Array.getElem?_toList, hsz, hfm pi hlt, hat] at hx'
  simp only [Option.bind_some, hx, Option.map_some, Option.some.injEq] at hx'
  exact hx'.symm
/-- What is asked of the orders together. -/
def ordersOk (ops : Array Oper) (lis : List LIns) (ms : List Nat) (os : List (List Nat × List Nat)) : Bool :=
  (List.range ops.size).all (fun i => match ops[i]? with | some x => (edgesOf x).all (fun e => decide (e < i)) && (plainOp x || (heavyAt lis i && os.all fun q => os.all fun q' => (List.range (q.1.length + 1)).all fun n => !((q.1.take n ++ [i]).isPrefixOf q.1 && (q.1.take n ++ [i]).isPrefixOf q'.1) || decide (q = q'))) | none => true) &&
  os.all (fun q => permOk ops q.2 && decide q.1.Nodup && q.1.all (fun i => decide (i < ops.size) && heavyAt lis i)) &&
  os.all (fun q => (List.range (q.1.length + 1)).all fun n => (List.range ops.size).all fun i => !heavyAt lis i || (q.1.take n).contains i || (List.range ops.size).any (fun j => heavyAt lis j && An ms i j && !(q.1.take n).contains j) ||
    os.any (fun q' => (q.1.take n ++ [i]).isPrefixOf q'.1)) &&
  !os.isEmpty
theorem prevOf_ahead : ∀ {o : List Nat} {i p : Nat}, prevOf o i = some p → Ahead o p i ∧ i ∈ o ∧ p ∈ o
  | [], i, p, h => by simp [prevOf] at h
  | [a], i, p, h => by simp [prevOf] at h
  | a :: b :: r, i, p, h => by
    simp only [prevOf] at h
    by_cases hb : (b == i) = true
    · rw [if_pos hb] at h
      cases h
      have hbi : b = i := by simpa using hb
      subst hbi
      exact ⟨⟨[a], r, rfl, by simp⟩, by simp, by simp⟩
    · rw [if_neg hb] at h
      obtain ⟨⟨l1, l2, e, hm⟩, h2, h3⟩ := prevOf_ahead h
      exact ⟨⟨a :: l1, l2, by rw [e]; rfl, by simp [hm]⟩, by simp [h2], by simp [h3]⟩
theorem alts_of {P : Program} {ops : Array Oper} {lis : List LIns} {ms : List Nat} {os : List (List Nat × List Nat)} (hms : ms = masks ops.toList []) (h : ordersOk ops lis ms os = true) :
    Alts P ops os (fun q => mkOps ops q.2 q.1) (fun q i => q.2.idxOf i) (fun q => q.1) (heavyAt lis) (An ms) := by
  simp only [ordersOk, Bool.and_eq_true, List.all_eq_true, List.mem_range, decide_eq_true_eq] at h
  obtain ⟨⟨⟨h1, h2⟩, h3⟩, _⟩ := h
  have hlt : ∀ (i : Nat) (x : Oper), ops[i]? = some x → (∀ e ∈ edgesOf x, e < i) ∧ (plainOp x = true ∨ (heavyAt lis i = true ∧ ∀ q ∈ os, ∀ q' ∈ os, ∀ n, n < q.1.length + 1 → (q.1.take n ++ [i]) <+: q.1 → (q.1.take n ++ [i]) <+: q'.1 → q = q')) := by
    intro i x hx
    have hi : i < ops.size := (Array.getElem?_eq_some_iff.1 hx).1
    have := h1 i hi
    rw [hx] at this
    simp only [Bool.and_eq_true, List.all_eq_true, decide_eq_true_eq, Bool.or_eq_true, List.mem_range, Bool.not_eq_true', Bool.and_eq_false_iff] at this
    refine ⟨this.1, this.2.imp id fun h => ⟨h.1, fun q hq q' hq' n hn p1 p2 => ?_⟩⟩
    rcases h.2 q hq q' hq' n hn with (h3 | h3) | h3
    · rw [← List.isPrefixOf_iff_prefix, h3] at p1; cases p1
    · rw [← List.isPrefixOf_iff_prefix, h3] at p2; cases p2
    · exact h3
  refine ⟨fun q hq => alt_of (h2 q hq).1.1, fun i x hx => (hlt i x hx).1, fun q hq i x x' hx hx' e' he' => ?_, fun q hq => (h2 q hq).1.2, fun i L hi hL j hj => ?_, fun hh i hex hi hv hni hanc => ?_, fun i x hx => (hlt i x hx).2.imp (fun h a w => plainOp_ok h a w) (fun h => ⟨h.1, fun hh s hs s' hs' p1 p2 => ?_⟩)⟩
  · have hal := alt_of (o := q.1) (h2 q hq).1.1
    have hi : i < ops.size := (Array.getElem?_eq_some_iff.1 hx).1
    -- the operation there
    have hsame : x' = mkOper ops q.2 q.1 i x := mk_at (h2 q hq).1.1 hx hx'
    rw [hsame, edges_mk] at he'
    unfold newEdges at he'
    rw [hx] at he'
    rcases List.mem_append.1 he' with h | h
    · simp only [List.mem_map] at h
      obtain ⟨e, he, rfl⟩ := h
      exact .inl ⟨e, he, rfl⟩
    · cases hp : prevOf q.1 i with
      | none => rw [hp] at h; cases h
      | some p =>
        rw [hp] at h
        simp only [List.mem_singleton] at h
        obtain ⟨ha, hio, hpo⟩ := prevOf_ahead hp
        have hi2 := (h2 q hq).2 i hio
        have hp2 := (h2 q hq).2 p hpo
        exact .inr ⟨hi2.2, p, hp2.1, hp2.2, h, ha⟩
  · unfold An at hj
    rw [hms] at hj
    have hedge : ∀ (i : Nat) (o : Oper), ops.toList[i]? = some o → ∀ e ∈ edgesOf o, e < ([] : List Nat).length + i := by
      intro i o ho e he
      have := (hlt i o (by simpa using ho)).1 e he
      simpa using this
    have := closed_of_mask (L := fun k => L k || k == i) ops.toList [] hedge
      (by
        intro k o' ho' hLk e he
        simp only [List.length_nil, Nat.zero_add, Bool.or_eq_true, beq_iff_eq] at hLk ⊢
        exact .inl (hL k o' (by simpa using ho') hLk e he))
      (by intro k hk; simp at hk) i (by simp) j hj
    simp only [Bool.or_eq_true, beq_iff_eq] at this
    rcases this with h | h
    · exact h
    · have := mask_lt ops.toList [] hedge (by intro i hi; simp at hi) i j hj
      omega
  · obtain ⟨q, hq, hpre⟩ := hex
    have htake : q.1.take hh.length = hh := by
      obtain ⟨r, hr⟩ := hpre
      rw [← hr]; simp
    have hlen : hh.length < q.1.length + 1 := by
      have := hpre.length_le; omega
    have := h3 q hq hh.length hlen i hi
    rw [htake] at this
    simp only [hv, Bool.not_true, Bool.false_or, Bool.or_eq_true, List.contains_iff_mem, List.any_eq_true, List.mem_range, Bool.and_eq_true, Bool.not_eq_true', List.isPrefixOf_iff_prefix] at this
    rcases this with (h | ⟨j, hj, ⟨hjv, hja⟩, hjn⟩) | ⟨q', hq', hp'⟩
    · exact absurd h hni
    · have := hanc j hj hjv hja
      rw [← List.contains_iff_mem] at this
      rw [hjn] at this; cases this
    · exact ⟨q', hq', hp'⟩
  · have htake : s.1.take hh.length = hh := by
      obtain ⟨r, hr⟩ := p1
      rw [← hr]; simp
    have hlen : hh.length < s.1.length + 1 := by
      have := p1.length_le; simp at this; omega
    exact h.2 s hs s' hs' hh.length hlen (by rw [htake]; exact p1) (by rw [htake]; exact p2)
end Go.Ot
