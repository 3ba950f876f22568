/-
  Part R: the proof over all orders; light code out of code; contracts.
-/
import Derived.Test.YtkocomnfomjfiaaOtQ
set_option linter.unusedVariables false
set_option linter.unusedSimpArgs false
namespace Go.Ot
open Go.RowKit

theorem All2.getBoth {α β : Type} {R : α → β → Prop} {l : List α} {m : List β} (h : All2 R l m) {i : Nat} {a : α} {b : β} (ha : l[i]? = some a) (hb : m[i]? = some b) : R a b := by
  obtain ⟨b', hb', hr⟩ := h.get ha
  rw [hb] at hb'; cases hb'; exact hr
theorem mem_edges {o : Oper} {e : Edge} (he : e ∈ o.after) (hb : Region.binds .any e = true) : e.on ∈ edgesOf o := by
  simp only [edgesOf, List.mem_map, List.mem_filter]
  exact ⟨e, ⟨by simpa using he, hb⟩, rfl⟩
theorem of_mem_edges {o : Oper} {k : Nat} (h : k ∈ edgesOf o) : ∃ e ∈ o.after, Region.binds .any e = true ∧ e.on = k := by
  simp only [edgesOf, List.mem_map, List.mem_filter] at h
  obtain ⟨e, ⟨h1, h2⟩, h3⟩ := h
  exact ⟨e, by simpa using h1, h2, h3⟩
def bl (listed : Array Bool) (i : Nat) : Bool := listed.getD i false

/-- What holds along any order: L is listed. -/
structure Along (P : Program) (n : Nat) (c0 : Cx) (base0 : World) (ops : Array Oper) (lis : List LIns) (ms : List Nat) (Hf : Nat → Heap) (vs : List Value) (t0 : Tm) (listed : Array Bool) (a : Act) (w : World) : Prop where
  size : listed.size = ops.size
  closed : ∀ i o, ops[i]? = some o → bl listed i = true → ∀ e ∈ edgesOf o, bl listed e = true
  st : ∃ t, St n c0 base0 t (Hf (hcount lis (bl listed))) a w ∧ (∀ (s j : Nat) (lj : LIns) (v : Value), lis[j]? = some lj → lj.dst = some s → vs[j]? = some v → bl listed j = true → t s = v) ∧
    (∀ s, (∀ (j : Nat) (lj : LIns), lis[j]? = some lj → bl listed j = true → lj.dst ≠ some s) → t s = t0 s)

section
variable {P : Program} {n : Nat} {c0 : Cx} {base0 : World} {ops : Array Oper} {lis : List LIns} {ms : List Nat} {Hf : Nat → Heap} {m : Nat} {vs : List Value} {t0 : Tm}
theorem tAt_written (hd : Draws ops.toList lis ms) (htr : TraceOk P Hf m (mkDs lis ms) 0 t0 vs) : ∀ k, k ≤ lis.length → ∀ (s j : Nat) (lj : LIns) (v : Value), lis[j]? = some lj → lj.dst = some s → vs[j]? = some v → j < k → tAt (mkDs lis ms) vs t0 k s = v
  | 0, _, _, _, _, _, _, _, _, h => by omega
  | k + 1, hk, s, j, lj, v, hlj, hs, hv, hlt => by
    have hg : lis[k]? = some lis[k] := List.getElem?_eq_getElem hk
    obtain ⟨u, hu, _⟩ := trace_at htr (mkDs_get (ms := ms) hg)
    rw [tAt_succ (mkDs_get hg) hu]
    by_cases hjk : j = k
    · subst hjk
      rw [hlj] at hg; cases hg
      rw [hv] at hu; cases hu
      simp [put, mkD, hs]
    · have ih := tAt_written hd htr k (by omega) s j lj v hlj hs hv (by omega)
      have : (lis[k]).dst ≠ some s := fun he => hjk (hd.uniq _ _ _ _ s hlj hg hs he)
      unfold put
      simp only [mkD]
      cases hdst : (lis[k]).dst with
      | none => exact ih
      | some d =>
        simp only
        have : s ≠ d := fun he => this (by rw [hdst, he])
        rw [if_neg this]; exact ih
theorem tAt_kept (htr : TraceOk P Hf m (mkDs lis ms) 0 t0 vs) : ∀ k, k ≤ lis.length → ∀ s, (∀ (j : Nat) (lj : LIns), lis[j]? = some lj → j < k → lj.dst ≠ some s) → tAt (mkDs lis ms) vs t0 k s = t0 s
  | 0, _, s, _ => by
    have : tAt (mkDs lis ms) vs t0 0 = t0 := by cases mkDs lis ms <;> cases vs <;> rfl
    rw [this]
  | k + 1, hk, s, h => by
    have hg : lis[k]? = some lis[k] := List.getElem?_eq_getElem hk
    obtain ⟨u, hu, _⟩ := trace_at htr (mkDs_get (ms := ms) hg)
    rw [tAt_succ (mkDs_get hg) hu]
    have ih := tAt_kept htr k (by omega) s (fun j lj hl hj => h j lj hl (by omega))
    have hne := h k _ hg (by omega)
    unfold put
    simp only [mkD]
    cases hdst : (lis[k]).dst with
    | none => exact ih
    | some d =>
      simp only
      have : s ≠ d := fun he => hne (by rw [hdst, he])
      rw [if_neg this]; exact ih
theorem mask_lt : ∀ (ops : List Oper) (acc : List Nat), (∀ (i : Nat) (o : Oper), ops[i]? = some o → ∀ e ∈ edgesOf o, e < acc.length + i) → (∀ i, i < acc.length → ∀ j, (acc.getD i 0).testBit j = true → j < i) →
    ∀ i j, ((masks ops acc).getD i 0).testBit j = true → j < i
  | [], acc, _, h, i, j, hj => by
    by_cases hlt : i < acc.length
    · exact h i hlt j hj
    · simp only [masks] at hj
      rw [List.getD_eq_getElem?_getD, List.getElem?_eq_none (by omega)] at hj
      simp at hj
  | o :: rest, acc, h1, h3, i, j, hj => by
    refine mask_lt rest (acc ++ [maskOf acc (edgesOf o)]) ?_ ?_ i j hj
    · intro i o' ho e he
      have := h1 (i + 1) o' (by simpa using ho) e he
      simp; omega
    · intro i hlt j hj
      by_cases hi2 : i < acc.length
      · refine h3 i hi2 j ?_
        rw [List.getD_eq_getElem?_getD, List.getElem?_append_left hi2] at hj
        rw [List.getD_eq_getElem?_getD]; exact hj
      · have he : i = acc.length := by simp at hlt; omega
        subst he
        rw [List.getD_eq_getElem?_getD] at hj
        simp only [List.getElem?_concat_length, Option.getD_some] at hj
        unfold maskOf at hj
        rw [maskOf_bit] at hj
        simp only [Nat.zero_testBit, Bool.false_or, List.any_eq_true, Bool.or_eq_true, beq_iff_eq] at hj
        obtain ⟨e, he, hj⟩ := hj
        have hlt2 := h1 0 o (by simp) e he
        simp only [Nat.add_zero] at hlt2
        rcases hj with rfl | hj
        · exact hlt2
        · have := h3 e hlt2 j hj; omega
theorem bl_set {listed : Array Bool} {i j : Nat} (hi : i < listed.size) : bl (listed.setIfInBounds i true) j = (if j = i then true else bl listed j) := by
  unfold bl
  by_cases h : j = i
  · subst h; simp [hi]
  · simp [h, Array.getElem?_setIfInBounds_ne (Ne.symm h)]
theorem wpAny_along (hm : lis.length = ops.size) (hd : Draws ops.toList lis ms) (hl : All2 (fun o i => lightIns P n ops o = some i) ops.toList lis) (htr : TraceOk P Hf m (mkDs lis ms) 0 t0 vs)
    {Q : Exit → Act → World → Prop} {Qa : Tm → Heap → Prop} (hQ : ∀ t H a w, St n c0 base0 t H a w → Qa t H → Q .normal a w) (hfin : Qa (tAt (mkDs lis ms) vs t0 lis.length) (Hf m)) :
    ∀ (fuel : Nat) (listed : Array Bool) (a : Act) (w : World), Along P n c0 base0 ops lis ms Hf vs t0 listed a w → (List.range ops.size).countP (fun j => !bl listed j) ≤ fuel → wpAny P .any ops Q fuel listed a w := by
  have hvlen := (trace_len htr).1
  rw [mkDs_length] at hvlen
  have hmm := (trace_len htr).2
  rw [mkDs_length, hAt_count (ms := ms) lis.length (Nat.le_refl _)] at hmm
  have closedA : ∀ {listed : Array Bool} {a : Act} {w : World}, Along P n c0 base0 ops lis ms Hf vs t0 listed a w → ∀ i, bl listed i = true → ∀ j, An ms i j = true → bl listed j = true := by
    intro listed a w hA i hi j hj
    unfold An at hj
    rw [hd.masks] at hj
    refine closed_of_mask ops.toList [] ?_ ?_ ?_ i hi j hj
    · intro i o ho e he; simpa using hd.edge i o ho e he
    · intro i o ho hL e he; exact hA.closed i o (by simpa using ho) (by simpa using hL) e he
    · intro i hi; simp at hi
  -- all are listed: the end
  have atEnd : ∀ (listed : Array Bool) (a : Act) (w : World), Along P n c0 base0 ops lis ms Hf vs t0 listed a w → (∀ j, j < ops.size → bl listed j = true) → Q .normal a w := by
    intro listed a w hA hall
    obtain ⟨t, hst, h1, h2⟩ := hA.st
    have hcnt : hcount lis (bl listed) = m := by
      rw [← hmm, Nat.zero_add]
      refine hcount_congr fun j li hj _ => ?_
      have hjl : j < lis.length := (List.getElem?_eq_some_iff.1 hj).1
      rw [hall j (by omega)]; simp [hjl]
    rw [hcnt] at hst
    have ht : t = tAt (mkDs lis ms) vs t0 lis.length := by
      funext s
      by_cases hex : ∃ (j : Nat) (lj : LIns), lis[j]? = some lj ∧ lj.dst = some s
      · obtain ⟨j, lj, hlj, hs⟩ := hex
        have hjl : j < lis.length := (List.getElem?_eq_some_iff.1 hlj).1
        have hv : vs[j]? = some vs[j] := List.getElem?_eq_getElem (by omega)
        rw [h1 s j lj _ hlj hs hv (hall j (by omega)), tAt_written hd htr _ (Nat.le_refl _) s j lj _ hlj hs hv hjl]
      · rw [h2 s (fun j lj hlj _ hs => hex ⟨j, lj, hlj, hs⟩), tAt_kept htr _ (Nat.le_refl _) s (fun j lj hlj _ hs => hex ⟨j, lj, hlj, hs⟩)]
    subst ht
    exact hQ _ _ _ _ hst hfin
  -- nobody is ready: all are listed
  have noneReady : ∀ (listed : Array Bool) (a : Act) (w : World), Along P n c0 base0 ops lis ms Hf vs t0 listed a w → Region.ready .any ops listed = [] → ∀ j, j < ops.size → bl listed j = true := by
    intro listed a w hA hr j
    induction j using Nat.strongRecOn with
    | _ j ih =>
      intro hj
      cases hb : bl listed j with
      | true => rfl
      | false =>
        have : j ∈ Region.ready .any ops listed := by
          rw [mem_ready]
          have hjs : j < listed.size := by rw [hA.size]; exact hj
          refine ⟨?_, ops[j], by simp [hj], fun e he hbd => ?_⟩
          · unfold bl at hb
            simp only [Array.getD, hjs, dif_pos] at hb ⊢
            exact hb
          · have hlt := hd.edge j ops[j] (by simp [hj]) e.on (mem_edges he hbd)
            exact ih e.on hlt (by omega)
        rw [hr] at this; cases this
  intro fuel
  induction fuel with
  | zero =>
    intro listed a w hA hc
    have hall : ∀ j, j < ops.size → bl listed j = true := by
      intro j hj
      have h0 : (List.range ops.size).countP (fun j => !bl listed j) = 0 := by omega
      rw [List.countP_eq_zero] at h0
      have := h0 j (List.mem_range.2 hj)
      simpa using this
    refine ⟨?_, atEnd listed a w hA hall⟩
    cases hr : Region.ready .any ops listed with
    | nil => rfl
    | cons i rest =>
      have hmem : i ∈ Region.ready .any ops listed := by rw [hr]; simp
      rw [mem_ready] at hmem
      obtain ⟨h0, o, ho, _⟩ := hmem
      have hi : i < ops.size := (Array.getElem?_eq_some_iff.1 ho).1
      have hb := hall i hi
      have his : i < listed.size := by rw [hA.size]; exact hi
      unfold bl at hb
      simp only [Array.getD, his, dif_pos] at h0 hb
      rw [h0] at hb; cases hb
  | succ fuel ih =>
    intro listed a w hA hc
    refine ⟨fun hr => atEnd listed a w hA (noneReady listed a w hA hr), fun i hi => ?_⟩
    rw [mem_ready] at hi
    obtain ⟨h0, o, ho, hedges⟩ := hi
    have hi : i < ops.size := (Array.getElem?_eq_some_iff.1 ho).1
    have his : i < listed.size := by rw [hA.size]; exact hi
    have hnb : bl listed i = false := by
      unfold bl; simp only [Array.getD, his, dif_pos] at h0 ⊢; exact h0
    have hil : i < lis.length := by omega
    have hli : lis[i]? = some lis[i] := List.getElem?_eq_getElem hil
    generalize hlg : lis[i] = li at hli
    have hlight : lightIns P n ops o = some li := hl.getBoth (by simpa using ho) hli
    have hdir : ∀ e ∈ edgesOf o, bl listed e = true := fun k hk => by
      obtain ⟨e, he, hb, rfl⟩ := of_mem_edges hk
      exact hedges e he hb
    -- all that i comes behind are listed
    have hanc : ∀ j, An ms i j = true → bl listed j = true := by
      intro j hj
      unfold An at hj
      rw [hd.masks] at hj
      have := closed_of_mask (L := fun k => bl listed k || k == i) ops.toList [] (by intro i o ho e he; simpa using hd.edge i o ho e he)
        (by
          intro k o' ho' hL e he
          simp only [List.length_nil, Nat.zero_add, Bool.or_eq_true, beq_iff_eq] at hL ⊢
          rcases hL with hL | hL
          · exact .inl (hA.closed k o' (by simpa using ho') hL e he)
          · subst hL
            have : o' = o := by have h1 : ops[k]? = some o' := by simpa using ho'
                                rw [ho] at h1; cases h1; rfl
            subst this
            exact .inl (hdir e he))
        (by intro k hk; simp at hk) i (by simp) j hj
      simp only [Bool.or_eq_true, beq_iff_eq] at this
      rcases this with h | h
      · exact h
      · have := mask_lt ops.toList [] (by intro i o ho e he; simpa using hd.edge i o ho e he) (by intro i hi; simp at hi) i j hj
        omega
    obtain ⟨t, hst, h1, h2⟩ := hA.st
    obtain ⟨v, hv, hok⟩ := trace_at htr (mkDs_get (ms := ms) hli)
    rw [Nat.zero_add] at hok
    have agree : ∀ s ∈ rds li, tAt (mkDs lis ms) vs t0 i s = t s := by
      intro s hs
      by_cases hex : ∃ (j : Nat) (lj : LIns), lis[j]? = some lj ∧ lj.dst = some s
      · obtain ⟨j, lj, hlj, hds⟩ := hex
        have hjl : j < lis.length := (List.getElem?_eq_some_iff.1 hlj).1
        have hvj : vs[j]? = some vs[j] := List.getElem?_eq_getElem (by omega)
        rcases hd.reads i j li lj s hli hlj hs hds with ⟨hji, hAij⟩ | ⟨hij, hAji⟩
        · rw [h1 s j lj _ hlj hds hvj (hanc j hAij), tAt_written hd htr i (by omega) s j lj _ hlj hds hvj hji]
        · have hnl : bl listed j ≠ true := fun hb => by have := closedA hA j hb i hAji; rw [hnb] at this; cases this
          rw [h2 s (fun j' lj' hl' hb' hd' => hnl (by have := hd.uniq _ _ _ _ s hl' hlj hd' hds; rw [← this]; exact hb')),
            tAt_kept htr i (by omega) s (fun j' lj' hl' hlt hd' => by have := hd.uniq _ _ _ _ s hl' hlj hd' hds; omega)]
      · rw [h2 s (fun j lj hl _ hs => hex ⟨j, lj, hl, hs⟩), tAt_kept htr i (by omega) s (fun j lj hl _ hs => hex ⟨j, lj, hl, hs⟩)]
    obtain ⟨hcongr, hwant⟩ := ev_slots agree
    -- the heavy ones so far
    have hkm : hcount lis (bl listed) ≤ m := by
      rw [← hmm, Nat.zero_add]
      refine hcount_le fun j lj hlj _ _ => ?_
      have hjl : j < lis.length := (List.getElem?_eq_some_iff.1 hlj).1
      simp [hjl]
    have hheavy : isHeavy li = true → hcount lis (bl listed) = hAt (mkDs lis ms) i := by
      intro hh
      rw [hAt_count (ms := ms) i (by omega)]
      refine hcount_congr fun j lj hlj hhj => ?_
      by_cases hji : j < i
      · rw [hanc j (hd.heavy i j li lj hli hlj hh hhj hji)]; simp [hji]
      · by_cases he : j = i
        · subst he; rw [hnb]; simp
        · have hnl : bl listed j ≠ true := fun hb => by
            have := closedA hA j hb i (hd.heavy j i lj li hlj hli hhj hh (by omega)); rw [hnb] at this; cases this
          cases hb : bl listed j with
          | true => exact absurd hb hnl
          | false => simp [hji]
    have hset : ∀ j, bl (listed.setIfInBounds i true) j = (if j = i then true else bl listed j) := fun j => bl_set his
    have hnext : hcount lis (bl (listed.setIfInBounds i true)) = hcount lis (bl listed) + (if isHeavy li then 1 else 0) := by
      by_cases hh : isHeavy li = true
      · rw [if_pos hh]
        unfold hcount
        have e : (List.range lis.length).countP (fun j => (lis[j]?).any isHeavy && bl (listed.setIfInBounds i true) j) = (List.range lis.length).countP (fun j => ((lis[j]?).any isHeavy && bl listed j) || j == i) := by
          refine List.countP_congr fun j _ => ?_
          rw [hset]
          by_cases hji : j = i
          · subst hji; simp [hli, hh]
          · simp [hji]
        rw [e, countP_range_insert _ i (by simp [hnb]) _, if_pos hil]
      · rw [if_neg hh, Nat.add_zero]
        refine hcount_congr fun j lj hlj hhj => ?_
        rw [hset]
        have : j ≠ i := fun he => by subst he; rw [hli] at hlj; cases hlj; exact hh hhj
        simp [this]
    have hdst := (lightIns_spec hlight).2.2.2
    have nextAlong : ∀ (v' : Value) (w' : World) (H' : Heap), H' = Hf (hcount lis (bl (listed.setIfInBounds i true))) → (∃ ρ, Rep H' ρ w' ∧ c0.le (H'.cx ρ) ∧ H'.base = base0 ∧ TmR (H'.cx ρ) t a.tmps ∧ r3 (H'.cx ρ) v v') →
        wpAny P .any ops Q fuel (listed.setIfInBounds i true) (a.put o.dst v') w' := by
      rintro v' w' H' rfl ⟨ρ, hR, hle, hb, ht, hr⟩
      refine ih _ _ _ ⟨by simp [hA.size], ?_, ?_⟩ ?_
      · intro k o' ho' hL e he
        rw [hset] at hL ⊢
        by_cases hki : k = i
        · subst hki
          rw [ho] at ho'; cases ho'
          have := hdir e he
          split
          · rfl
          · exact this
        · rw [if_neg hki] at hL
          have := hA.closed k o' ho' hL e he
          split
          · rfl
          · exact this
      · refine ⟨put t li.dst v, ⟨by rw [put_defers']; exact hst.defers, by rw [put_size]; exact hst.size, ρ, hR, hle, hb, by rw [hdst]; exact ht.put hr _⟩, ?_, ?_⟩
        · intro s j lj u hlj hds hu hL
          rw [hset] at hL
          by_cases hji : j = i
          · subst hji
            rw [hli] at hlj; cases hlj
            rw [hv] at hu; cases hu
            simp [put, hds]
          · rw [if_neg hji] at hL
            have hne : li.dst ≠ some s := fun he => hji (hd.uniq _ _ _ _ s hlj hli hds he)
            have := h1 s j lj u hlj hds hu hL
            unfold put
            cases hdd : li.dst with
            | none => exact this
            | some d => simp only; rw [if_neg (fun he => hne (by rw [hdd, he]))]; exact this
        · intro s hs
          have hne : li.dst ≠ some s := hs i li hli (by rw [hset]; simp)
          have := h2 s (fun j lj hlj hL => hs j lj hlj (by rw [hset]; split <;> first | rfl | exact hL))
          unfold put
          cases hdd : li.dst with
          | none => exact this
          | some d => simp only; rw [if_neg (fun he => hne (by rw [hdd, he]))]; exact this
      · -- one fewer is left
        have e : (List.range ops.size).countP (fun j => !bl listed j) = (List.range ops.size).countP (fun j => (!bl (listed.setIfInBounds i true) j) || j == i) := by
          refine List.countP_congr fun j _ => ?_
          rw [hset]
          by_cases hji : j = i
          · subst hji; simp [hnb]
          · simp [hji]
        rw [e, countP_range_insert _ i (by rw [hset]; simp) _, if_pos hi] at hc
        omega
    unfold wpOp
    simp only [ho]
    obtain ⟨hdef, hsz, ρ, hR, hle, hb, ht⟩ := hst
    rw [wanted_eq hlight hsz ht, ← hwant]
    unfold DOk at hok
    have hins : (mkD lis ms i li).ins = li := rfl
    rw [hins] at hok
    by_cases hg : wantedL li.guard (tAt (mkDs lis ms) vs t0 i) = true
    · rw [if_pos hg] at hok
      rw [if_pos hg]
      -- the operation is done in the heap that stands now
      obtain ⟨H', hH', hdo⟩ : ∃ H', H' = Hf (hcount lis (bl (listed.setIfInBounds i true))) ∧ Do P t (Hf (hcount lis (bl listed))) li.op v H' := by
        rw [hnext]
        refine ⟨_, rfl, ?_⟩
        have hkind : (mkD lis ms i li).kind = kindOf li.op := rfl
        rw [hkind] at hok
        cases hk : kindOf li.op with
        | pure =>
          simp only [hk] at hok
          have hh : isHeavy li = false := by simp [isHeavy, hk]
          simp only [hh, Bool.false_eq_true, if_false, Nat.add_zero]
          exact Do_congr hcongr (hok _ hkm)
        | read =>
          simp only [hk] at hok
          have hh : isHeavy li = false := by simp [isHeavy, hk]
          simp only [hh, Bool.false_eq_true, if_false, Nat.add_zero]
          refine Do_congr hcongr (hok _ ?_ ?_ hkm)
          · exact hcount_le (lis := lis) (L := fun j => An ms i j) (M := bl listed) (fun j lj _ _ hj => hanc j hj)
          · exact hcount_le (lis := lis) (L := bl listed) (M := fun j => !An ms j i) (fun j lj _ _ hj => by
              cases hAn : An ms j i with
              | false => rfl
              | true => have := closedA hA j hj i hAn; rw [hnb] at this; cases this)
        | heavy =>
          simp only [hk] at hok
          have hh : isHeavy li = true := by simp [isHeavy, hk]
          rw [hheavy hh, if_pos hh]
          exact Do_congr hcongr hok
      refine .inl (do_sound hlight hdo hR hsz ht (Q := Q) ?_)
      intro ρ' v' w' hR' hle' hr
      exact nextAlong v' w' H' hH' ⟨ρ', hR', hle.trans hle', by rw [do_base hdo]; exact hb, ht.mono hle', hr⟩
    · rw [if_neg hg] at hok
      rw [if_neg hg]
      obtain ⟨rfl, hsk⟩ := hok
      refine nextAlong undef w _ rfl ?_
      have hsame : Hf (hcount lis (bl (listed.setIfInBounds i true))) = Hf (hcount lis (bl listed)) := by
        rw [hnext]
        by_cases hh : isHeavy li = true
        · rw [if_pos hh, hheavy hh]
          exact hsk (by simpa [isHeavy, mkD] using hh)
        · rw [if_neg hh]; rfl
      rw [hsame]
      exact ⟨ρ, hR, hle, hb, ht, undef_rel _⟩
end
end Go.Ot
