/-
  Chapter 21: the plain invariant is kept by Put and Drop. Chapter 21: what a store holds, as a function; what Put and Drop do to it. Chapter 21: DropAll.
-/
import Derived.Test.YthclcdboialfnaaSeatE
namespace Go.Proofs.Ythclcdboialfnaa
open Go.Ot Go.RowKit
set_option linter.unusedSimpArgs false
set_option linter.unusedVariables false
theorem nodup_len : ∀ (R : Nat) (l : List Int), l.Nodup → (∀ s ∈ l, 0 ≤ s ∧ s < (R : Int)) → l.length ≤ R
  | 0, l, _, h => by
    cases l with
    | nil => simp
    | cons a l => have := h a (by simp); omega
  | R + 1, l, hn, h => by
    have h1 := nodup_len R (l.erase (R : Int)) (hn.erase _) (fun s hs => by
      have hm := (hn.mem_erase_iff).1 hs
      have := h s hm.2
      have := hm.1
      omega)
    have h2 := List.le_length_erase (a := (R : Int)) (l := l)
    omega
theorem getD_set (l : List Bool) (i j : Nat) (b : Bool) (hi : i < l.length) : (l.set i b).getD j false = if i = j then b else l.getD j false := by
  simp only [List.getD, List.getElem?_set]
  by_cases h : i = j
  · subst h; simp [hi]
  · simp [h]
theorem PK.val {D : SD} {W R : Nat} (pl : PK D W R) (s : Nat) (v : Int) : PK { D with vals := D.vals.set s v } W R :=
  ⟨pl.hW, pl.hch, by simpa using pl.hR, pl.hu, pl.R1, pl.W1, pl.rise, pl.long, pl.own, pl.frok, pl.nodup, pl.frR⟩
/-- No two of one chain have one place. -/
theorem PK.slots {D : SD} {W R : Nat} (pl : PK D W R) {a : Nat} (ha : a < D.ch.length) : (D.ch[a].map (·.2)).Nodup := by
  obtain ⟨own, ho⟩ := pl.own
  have hr := pl.rise a ha
  refine List.pairwise_map.2 ?_
  refine hr.imp_of_mem ?_
  intro q q' hq hq' hlt e
  have h1 := (ho a ha q hq).2.2.2
  have h2 := (ho a ha q' hq').2.2.2
  rw [e, h2] at h1
  simp only [Option.some.injEq, Prod.mk.injEq] at h1
  omega
theorem ins_mem {l : List Lk} {i : Nat} {p q : Lk} : q ∈ ins l i p ↔ q ∈ l ∨ q = p := by
  unfold ins
  conv => rhs; rw [← List.take_append_drop i l]
  simp only [List.mem_append, List.mem_singleton]
  constructor
  · rintro ((h | h) | h)
    · exact .inl (.inl h)
    · exact .inr h
    · exact .inl (.inr h)
  · rintro ((h | h) | h)
    · exact .inl (.inl h)
    · exact .inr h
    · exact .inl (.inr h)
theorem ins_rise {l : List Lk} (hr : Rise l) {age : Int} {i : Nat} (hP : PlaceV l age i) (hn : isAt l i age = false) (s : Int) : Rise (ins l i (age, s)) := by
  have hlt : ∀ q ∈ l.take i, q.1 < age := by
    intro q hq
    obtain ⟨j, hj, rfl⟩ := List.mem_iff_getElem.1 hq
    simp only [List.length_take] at hj
    rw [List.getElem_take]
    exact hP.lo j (by omega) (by omega)
  have hgt : ∀ q ∈ l.drop i, age < q.1 := by
    intro q hq
    obtain ⟨j, hj, rfl⟩ := List.mem_iff_getElem.1 hq
    simp only [List.length_drop] at hj
    rw [List.getElem_drop]
    have h1 := hP.hi (i + j) (by omega) (by omega)
    by_cases hj0 : j = 0
    · subst hj0
      have hi : i < l.length := by omega
      simp only [isAt, List.getElem?_eq_getElem hi, decide_eq_false_iff_not] at hn
      simp only [Nat.add_zero] at h1 ⊢
      omega
    · have h2 := List.pairwise_iff_getElem.1 hr i (i + j) (by omega) (by omega) (by omega)
      have h3 := hP.hi i (by omega) (by omega)
      omega
  unfold ins Rise
  rw [List.append_assoc]
  refine List.pairwise_append.2 ⟨hr.sublist (List.take_sublist i l), List.pairwise_append.2 ⟨by simp, hr.sublist (List.drop_sublist i l), fun x hx y hy => ?_⟩, fun x hx y hy => ?_⟩
  · rw [List.mem_singleton] at hx; subst hx; exact hgt y hy
  · have h1 := hlt x hx
    rcases List.mem_append.1 hy with h | h
    · rw [List.mem_singleton] at h; subst h; exact h1
    · have := hgt y h; omega
/-- The list of chains with one put anew: who is in it. -/
theorem ch_set {ch : List (List Lk)} {a : Nat} {l' : List Lk} {P : Nat → List Lk → Prop} (h1 : a < ch.length → P a l') (h2 : ∀ b (h : b < ch.length), b ≠ a → P b ch[b]) : ∀ b (h : b < (ch.set a l').length), P b (ch.set a l')[b] := by
  intro b h
  simp only [List.length_set] at h
  rw [List.getElem_set]
  by_cases e : a = b
  · subst e; rw [if_pos rfl]; exact h1 h
  · rw [if_neg e]; exact h2 b h (fun x => e x.symm)
theorem PK.new {D : SD} {W R : Nat} (pl : PK D W R) {a : Nat} (ha : a < D.ch.length) {age v : Int} {i : Nat} (hP : PlaceV D.ch[a] age i) (hn : isAt D.ch[a] i age = false) {fr' : List Int} {s : Int} (hfr : D.fr = fr' ++ [s]) (x' : Value) :
    PK { D with fr := fr', us := D.us.set s.toNat true, vals := D.vals.set s.toNat v, xs := D.xs.set a x', ch := D.ch.set a (ins D.ch[a] i (age, s)) } W R := by
  have hs := pl.frok s (by rw [hfr]; simp)
  have hsu : s.toNat < D.us.length := by rw [pl.hu]; omega
  have nd := pl.nodup
  rw [hfr] at nd
  have nd' := List.nodup_append.1 nd
  obtain ⟨own, ho⟩ := pl.own
  have hne : ∀ b (h : b < D.ch.length), ∀ q ∈ D.ch[b], q.2.toNat ≠ s.toNat := by
    intro b h q hq e
    have := (ho b h q hq).2.2.1
    rw [e, hs.2.2] at this
    cases this
  have own' : ∀ b (h : b < (D.ch.set a (ins D.ch[a] i (age, s))).length), ∀ q ∈ (D.ch.set a (ins D.ch[a] i (age, s)))[b], 0 ≤ q.2 ∧ q.2 < R ∧ (D.us.set s.toNat true).getD q.2.toNat false = true ∧ (fun n => if n = s.toNat then some (a, age) else own n) q.2.toNat = some (b, q.1) := by
    refine ch_set (P := fun b l => ∀ q ∈ l, 0 ≤ q.2 ∧ q.2 < R ∧ (D.us.set s.toNat true).getD q.2.toNat false = true ∧ (fun n => if n = s.toNat then some (a, age) else own n) q.2.toNat = some (b, q.1)) (fun _ q hq => ?_) (fun b h hb q hq => ?_)
    · rcases ins_mem.1 hq with hq | rfl
      · have h0 := ho a ha q hq
        have h1 := hne a ha q hq
        refine ⟨h0.1, h0.2.1, ?_, ?_⟩
        · rw [getD_set _ _ _ _ hsu, if_neg (fun e => h1 e.symm)]; exact h0.2.2.1
        · simp only [h1, if_false]; exact h0.2.2.2
      · refine ⟨hs.1, hs.2.1, ?_, ?_⟩
        · rw [getD_set _ _ _ _ hsu, if_pos rfl]
        · simp
    · have h0 := ho b h q hq
      have h1 := hne b h q hq
      refine ⟨h0.1, h0.2.1, ?_, ?_⟩
      · rw [getD_set _ _ _ _ hsu, if_neg (fun e => h1 e.symm)]; exact h0.2.2.1
      · simp only [h1, if_false]; exact h0.2.2.2
  have hl : (ins D.ch[a] i (age, s)).length ≤ R := by
    have hset : (D.ch.set a (ins D.ch[a] i (age, s))).length = D.ch.length := by simp
    have hr := ins_rise (pl.rise a ha) hP hn s
    have nd2 : ((ins D.ch[a] i (age, s)).map (·.2)).Nodup := by
      refine List.pairwise_map.2 ?_
      refine hr.imp_of_mem ?_
      intro q q' hq hq' hlt e
      have h1 := own' a (by rw [hset]; exact ha) q (by simpa using hq)
      have h2 := own' a (by rw [hset]; exact ha) q' (by simpa using hq')
      have h3 := h1.2.2.2
      rw [e, h2.2.2.2] at h3
      simp only [Option.some.injEq, Prod.mk.injEq] at h3
      omega
    have := nodup_len R _ nd2 (fun t ht => by
      obtain ⟨q, hq, rfl⟩ := List.mem_map.1 ht
      have h1 := own' a (by rw [hset]; exact ha) q (by simpa using hq)
      exact ⟨h1.1, h1.2.1⟩)
    simpa using this
  refine ⟨by simpa using pl.hW, by simpa using pl.hch, by simpa using pl.hR, by simpa using pl.hu, pl.R1, pl.W1, ?_, ?_, ⟨fun n => if n = s.toNat then some (a, age) else own n, own'⟩, fun t ht => ?_, nd'.1, ?_⟩
  · exact ch_set (P := fun _ l => Rise l) (fun _ => ins_rise (pl.rise a ha) hP hn s) (fun b h _ => pl.rise b h)
  · exact ch_set (P := fun _ l => l.length ≤ R) (fun _ => hl) (fun b h _ => pl.long b h)
  · have h1 := pl.frok t (by rw [hfr]; simp; exact .inl ht)
    have h2 : t ≠ s := nd'.2.2 t ht s (by simp)
    refine ⟨h1.1, h1.2.1, ?_⟩
    simp only
    rw [getD_set _ _ _ _ hsu, if_neg (by omega)]
    exact h1.2.2
  · have := pl.frR
    rw [hfr] at this
    simp at this
    simp only
    omega
theorem PK.drop {D : SD} {W R : Nat} (pl : PK D W R) {a : Nat} (ha : a < D.ch.length) {i : Nat} (hi : i < D.ch[a].length) (fb' : Nat) (x' : Value) :
    PK { D with fb := fb', fr := D.fr ++ [D.ch[a][i].2], us := D.us.set D.ch[a][i].2.toNat false, xs := D.xs.set a x', ch := D.ch.set a (D.ch[a].eraseIdx i) } W R := by
  obtain ⟨own, ho⟩ := pl.own
  have hs := ho a ha _ (List.getElem_mem hi)
  have hsl := pl.slots ha
  obtain ⟨p, hp⟩ : ∃ p, p = D.ch[a][i] := ⟨_, rfl⟩
  have hmem : ∀ q ∈ D.ch[a].eraseIdx i, q ∈ D.ch[a] := fun q hq => List.mem_of_mem_eraseIdx hq
  have hsub : (D.ch[a].eraseIdx i).Sublist D.ch[a] := List.eraseIdx_sublist D.ch[a] i
  have hnq : ∀ q ∈ D.ch[a].eraseIdx i, q.2 ≠ D.ch[a][i].2 := by
    intro q hq e
    obtain ⟨j, hj, hji, rfl⟩ := (List.mem_eraseIdx_iff_getElem).1 hq
    have h1 := List.pairwise_iff_getElem.1 hsl
    simp only [List.length_map, List.getElem_map] at h1
    rcases Nat.lt_or_gt_of_ne hji with h | h
    · exact h1 j i hj hi h e
    · exact h1 i j hi hj h e.symm
  rw [← hp] at hs hnq ⊢
  have hsu : p.2.toNat < D.us.length := by rw [pl.hu]; omega
  have hfn : p.2 ∉ D.fr := by
    intro h
    have := (pl.frok _ h).2.2
    rw [hs.2.2.1] at this
    cases this
  have own' : ∀ b (h : b < (D.ch.set a (D.ch[a].eraseIdx i)).length), ∀ q ∈ (D.ch.set a (D.ch[a].eraseIdx i))[b], 0 ≤ q.2 ∧ q.2 < R ∧ (D.us.set p.2.toNat false).getD q.2.toNat false = true ∧ own q.2.toNat = some (b, q.1) := by
    refine ch_set (P := fun b l => ∀ q ∈ l, 0 ≤ q.2 ∧ q.2 < R ∧ (D.us.set p.2.toNat false).getD q.2.toNat false = true ∧ own q.2.toNat = some (b, q.1)) (fun _ q hq => ?_) (fun b h hb q hq => ?_)
    · have h0 := ho a ha q (hmem q hq)
      have h1 := hnq q hq
      refine ⟨h0.1, h0.2.1, ?_, h0.2.2.2⟩
      rw [getD_set _ _ _ _ hsu, if_neg (by omega)]; exact h0.2.2.1
    · have h0 := ho b h q hq
      refine ⟨h0.1, h0.2.1, ?_, h0.2.2.2⟩
      rw [getD_set _ _ _ _ hsu, if_neg (fun e => ?_)]
      · exact h0.2.2.1
      · have h3 := h0.2.2.2
        rw [← e, hs.2.2.2] at h3
        simp only [Option.some.injEq, Prod.mk.injEq] at h3
        omega
  have nd : (D.fr ++ [p.2]).Nodup := List.nodup_append.2 ⟨pl.nodup, by simp, fun x hx y hy e => by
    rw [List.mem_singleton] at hy
    subst hy; subst e
    exact hfn hx⟩
  have fo : ∀ s ∈ D.fr ++ [p.2], 0 ≤ s ∧ s < R ∧ (D.us.set p.2.toNat false).getD s.toNat false = false := by
    intro s h
    rcases List.mem_append.1 h with h | h
    · have h0 := pl.frok s h
      refine ⟨h0.1, h0.2.1, ?_⟩
      rw [getD_set _ _ _ _ hsu]
      split
      · rfl
      · exact h0.2.2
    · rw [List.mem_singleton] at h
      subst h
      refine ⟨hs.1, hs.2.1, ?_⟩
      rw [getD_set _ _ _ _ hsu, if_pos rfl]
  refine ⟨by simpa using pl.hW, by simpa using pl.hch, pl.hR, by simpa using pl.hu, pl.R1, pl.W1, ?_, ?_, ⟨own, own'⟩, fo, nd, nodup_len R _ nd fun s h => ⟨(fo s h).1, (fo s h).2.1⟩⟩
  · exact ch_set (P := fun _ l => Rise l) (fun _ => (pl.rise a ha).sublist hsub) (fun b h _ => pl.rise b h)
  · exact ch_set (P := fun _ l => l.length ≤ R) (fun _ => Nat.le_trans hsub.length_le (pl.long a ha)) (fun b h _ => pl.long b h)
end Go.Proofs.Ythclcdboialfnaa
namespace Go.Proofs.Ythclcdboialfnaa
open Go.Ot Go.RowKit
set_option linter.unusedSimpArgs false
set_option linter.unusedVariables false
def cont (D : SD) (a : Nat) (g : Int) : Option Int := ((D.ch.getD a []).find? fun q => q.1 == g).map fun q => D.vals.getD q.2.toNat 0
theorem find_rise {l : List Lk} (hr : Rise l) {g : Int} {q : Lk} : (l.find? fun q => q.1 == g) = some q ↔ q ∈ l ∧ q.1 = g := by
  induction l with
  | nil => simp
  | cons p l ih =>
    have hr' := List.pairwise_cons.1 hr
    rw [List.find?_cons]
    by_cases h : p.1 = g
    · simp only [h, beq_self_eq_true, Option.some.injEq, List.mem_cons]
      constructor
      · rintro rfl; exact ⟨.inl rfl, h⟩
      · rintro ⟨rfl | hq, e⟩
        · rfl
        · have := hr'.1 q hq; omega
    · have : (p.1 == g) = false := by simp [h]
      rw [this]
      simp only [List.mem_cons]
      rw [ih hr'.2]
      constructor
      · rintro ⟨a, b⟩; exact ⟨.inr a, b⟩
      · rintro ⟨rfl | a, b⟩
        · exact absurd b h
        · exact ⟨a, b⟩
theorem cont_iff {D : SD} {W R : Nat} (pl : PK D W R) {a : Nat} {g v : Int} : cont D a g = some v ↔ ∃ h : a < D.ch.length, ∃ q ∈ D.ch[a], q.1 = g ∧ D.vals.getD q.2.toNat 0 = v := by
  unfold cont
  by_cases h : a < D.ch.length
  · simp only [List.getD, List.getElem?_eq_getElem h, Option.getD_some, Option.map_eq_some_iff, find_rise (pl.rise a h)]
    constructor
    · rintro ⟨q, ⟨h1, h2⟩, h3⟩; exact ⟨h, q, h1, h2, h3⟩
    · rintro ⟨_, q, h1, h2, h3⟩; exact ⟨q, ⟨h1, h2⟩, h3⟩
  · simp [List.getD, h]
theorem getD_setI (l : List Int) (i j : Nat) (b : Int) (hi : i < l.length) : (l.set i b).getD j 0 = if i = j then b else l.getD j 0 := by
  simp only [List.getD, List.getElem?_set]
  by_cases h : i = j
  · subst h; simp [hi]
  · simp [h]
/-- Put at an age that is there. -/
theorem cont_val {D : SD} {W R : Nat} (pl : PK D W R) {a : Nat} (ha : a < D.ch.length) {i : Nat} (hi : i < D.ch[a].length) (v : Int) (b : Nat) (g : Int) :
    cont { D with vals := D.vals.set D.ch[a][i].2.toNat v } b g = if b = a ∧ g = D.ch[a][i].1 then some v else cont D b g := by
  have pl' := pl.val D.ch[a][i].2.toNat v
  obtain ⟨own, ho⟩ := pl.own
  have hm := List.getElem_mem hi
  have hs := ho a ha _ hm
  have hsv : D.ch[a][i].2.toNat < D.vals.length := by rw [pl.hR]; omega
  refine Option.ext fun w => ?_
  rw [cont_iff pl']
  simp only
  by_cases hc : b = a ∧ g = D.ch[a][i].1
  · rw [if_pos hc]
    obtain ⟨rfl, rfl⟩ := hc
    constructor
    · rintro ⟨h, q, hq, e, hv⟩
      have h0 := ho b h q hq
      have : q = D.ch[b][i] := by
        have f1 := (find_rise (pl.rise b h) (g := q.1) (q := q)).2 ⟨hq, rfl⟩
        have f2 := (find_rise (pl.rise b h) (g := q.1) (q := D.ch[b][i])).2 ⟨hm, e.symm⟩
        rw [f1] at f2
        exact Option.some.inj f2
      rw [this, getD_setI _ _ _ _ hsv, if_pos rfl] at hv
      rw [hv]
    · intro e
      refine ⟨ha, _, hm, rfl, ?_⟩
      rw [getD_setI _ _ _ _ hsv, if_pos rfl]
      exact Option.some.inj e
  · rw [if_neg hc, cont_iff pl]
    have key : ∀ (h : b < D.ch.length), ∀ q ∈ D.ch[b], q.1 = g → (D.vals.set D.ch[a][i].2.toNat v).getD q.2.toNat 0 = D.vals.getD q.2.toNat 0 := by
      intro h q hq e
      rw [getD_setI _ _ _ _ hsv, if_neg]
      intro e2
      have h0 := (ho b h q hq).2.2.2
      rw [← e2, hs.2.2.2] at h0
      simp only [Option.some.injEq, Prod.mk.injEq] at h0
      exact hc ⟨h0.1.symm, by omega⟩
    constructor
    · rintro ⟨h, q, hq, e, hv⟩
      exact ⟨h, q, hq, e, by rw [← key h q hq e]; exact hv⟩
    · rintro ⟨h, q, hq, e, hv⟩
      exact ⟨h, q, hq, e, by rw [key h q hq e]; exact hv⟩
/-- Drop. -/
theorem cont_drop {D : SD} {W R : Nat} (pl : PK D W R) {a : Nat} (ha : a < D.ch.length) {i : Nat} (hi : i < D.ch[a].length) (fb' : Nat) (x' : Value) (b : Nat) (g : Int) :
    cont { D with fb := fb', fr := D.fr ++ [D.ch[a][i].2], us := D.us.set D.ch[a][i].2.toNat false, xs := D.xs.set a x', ch := D.ch.set a (D.ch[a].eraseIdx i) } b g = if b = a ∧ g = D.ch[a][i].1 then none else cont D b g := by
  have pl' := pl.drop ha hi fb' x'
  have hr := pl.rise a ha
  have hm : ∀ q, q ∈ D.ch[a].eraseIdx i ↔ q ∈ D.ch[a] ∧ q.1 ≠ D.ch[a][i].1 := by
    intro q
    rw [List.mem_eraseIdx_iff_getElem]
    constructor
    · rintro ⟨j, hj, hji, rfl⟩
      refine ⟨List.getElem_mem hj, ?_⟩
      rcases Nat.lt_or_gt_of_ne hji with h | h
      · have := List.pairwise_iff_getElem.1 hr j i hj hi h; omega
      · have := List.pairwise_iff_getElem.1 hr i j hi hj h; omega
    · rintro ⟨hq, hne⟩
      obtain ⟨j, hj, rfl⟩ := List.mem_iff_getElem.1 hq
      exact ⟨j, hj, fun e => hne (by simp only [e]), rfl⟩
  refine Option.ext fun w => ?_
  rw [cont_iff pl']
  simp only
  by_cases hc : b = a ∧ g = D.ch[a][i].1
  · rw [if_pos hc]
    obtain ⟨rfl, rfl⟩ := hc
    constructor
    · rintro ⟨h, q, hq, e, hv⟩
      rw [List.getElem_set_self, hm] at hq
      exact absurd e hq.2
    · intro e; cases e
  · rw [if_neg hc, cont_iff pl]
    constructor
    · rintro ⟨h, q, hq, e, hv⟩
      have h' : b < D.ch.length := by simpa using h
      refine ⟨h', q, ?_, e, hv⟩
      rw [List.getElem_set] at hq
      split at hq
      · rename_i hab; subst hab; exact ((hm q).1 hq).1
      · exact hq
    · rintro ⟨h, q, hq, e, hv⟩
      refine ⟨by simpa using h, q, ?_, e, hv⟩
      rw [List.getElem_set]
      split
      · rename_i hab; subst hab; exact (hm q).2 ⟨hq, fun e2 => hc ⟨rfl, by omega⟩⟩
      · exact hq
/-- Put at an age that isn't there. -/
theorem cont_new {D : SD} {W R : Nat} (pl : PK D W R) {a : Nat} (ha : a < D.ch.length) {age v : Int} {i : Nat} (hP : PlaceV D.ch[a] age i) (hn : isAt D.ch[a] i age = false) {fr' : List Int} {s : Int} (hfr : D.fr = fr' ++ [s]) (x' : Value) (b : Nat) (g : Int) :
    cont { D with fr := fr', us := D.us.set s.toNat true, vals := D.vals.set s.toNat v, xs := D.xs.set a x', ch := D.ch.set a (ins D.ch[a] i (age, s)) } b g = if b = a ∧ g = age then some v else cont D b g := by
  have pl' := pl.new ha hP hn hfr x' (v := v)
  have hs := pl.frok s (by rw [hfr]; simp)
  have hsv : s.toNat < D.vals.length := by rw [pl.hR]; omega
  obtain ⟨own, ho⟩ := pl.own
  have hr := ins_rise (pl.rise a ha) hP hn s
  have key : ∀ b (h : b < D.ch.length), ∀ q ∈ D.ch[b], (D.vals.set s.toNat v).getD q.2.toNat 0 = D.vals.getD q.2.toNat 0 := by
    intro b h q hq
    rw [getD_setI _ _ _ _ hsv, if_neg]
    intro e
    have := (ho b h q hq).2.2.1
    rw [← e, hs.2.2] at this
    cases this
  refine Option.ext fun w => ?_
  rw [cont_iff pl']
  simp only
  by_cases hc : b = a ∧ g = age
  · rw [if_pos hc]
    obtain ⟨rfl, rfl⟩ := hc
    constructor
    · rintro ⟨h, q, hq, e, hv⟩
      rw [List.getElem_set_self] at hq
      have f1 := (find_rise hr (g := g) (q := q)).2 ⟨hq, e⟩
      have f2 := (find_rise hr (g := g) (q := (g, s))).2 ⟨ins_mem.2 (.inr rfl), rfl⟩
      rw [f1] at f2
      rw [Option.some.inj f2, getD_setI _ _ _ _ hsv, if_pos rfl] at hv
      rw [hv]
    · intro e
      refine ⟨by simpa using ha, (g, s), ?_, rfl, ?_⟩
      · rw [List.getElem_set_self]; exact ins_mem.2 (.inr rfl)
      · rw [getD_setI _ _ _ _ hsv, if_pos rfl]; exact Option.some.inj e
  · rw [if_neg hc, cont_iff pl]
    constructor
    · rintro ⟨h, q, hq, e, hv⟩
      have h' : b < D.ch.length := by simpa using h
      have hq' : q ∈ D.ch[b] := by
        rw [List.getElem_set] at hq
        split at hq
        · rename_i hab
          subst hab
          rcases ins_mem.1 hq with h1 | rfl
          · exact h1
          · exact absurd ⟨rfl, e.symm⟩ hc
        · exact hq
      exact ⟨h', q, hq', e, by rw [← key b h' q hq']; exact hv⟩
    · rintro ⟨h, q, hq, e, hv⟩
      refine ⟨by simpa using h, q, ?_, e, by rw [key b h q hq]; exact hv⟩
      rw [List.getElem_set]
      split
      · rename_i hab; subst hab; exact ins_mem.2 (.inl hq)
      · exact hq
def putF (f : Nat → Int → Option Int) (W : Nat) (a age v : Int) (b : Nat) (g : Int) : Option Int := if 0 ≤ a ∧ a < W ∧ 0 ≤ age ∧ b = a.toNat ∧ g = age then some v else f b g
def dropF (f : Nat → Int → Option Int) (W : Nat) (a age : Int) (b : Nat) (g : Int) : Option Int := if 0 ≤ a ∧ a < W ∧ b = a.toNat ∧ g = age then none else f b g
def manyF (f : Nat → Int → Option Int) (age : Int) (i : Nat) : Nat := ((List.range i).filter fun b => (f b age).isSome).length
theorem manyF_succ (f : Nat → Int → Option Int) (age : Int) (i : Nat) : manyF f age (i + 1) = manyF f age i + if (f i age).isSome then 1 else 0 := by
  unfold manyF
  rw [List.range_succ, List.filter_append, List.length_append]
  congr 1
  by_cases h : (f i age).isSome = true
  · rw [if_pos h]; simp [h]
  · rw [if_neg h]; simp [h]
theorem manyF_le (f : Nat → Int → Option Int) (age : Int) (i : Nat) : manyF f age i ≤ i := by
  unfold manyF
  have := List.length_filter_le (fun b => (f b age).isSome) (List.range i)
  simpa using this
theorem manyF_same {f f' : Nat → Int → Option Int} {g : Int} : ∀ i, (∀ b, b < i → (f' b g).isSome = (f b g).isSome) → manyF f' g i = manyF f g i
  | 0, _ => rfl
  | i + 1, h => by rw [manyF_succ, manyF_succ, manyF_same i (fun b hb => h b (by omega)), h i (by omega)]
theorem manyF_one {f f' : Nat → Int → Option Int} {g : Int} {n : Nat} (hne : ∀ b, b ≠ n → (f' b g).isSome = (f b g).isSome) : ∀ i, n < i → manyF f' g i + (if (f n g).isSome then 1 else 0) = manyF f g i + (if (f' n g).isSome then 1 else 0)
  | 0, h => by omega
  | i + 1, h => by
    rw [manyF_succ, manyF_succ]
    by_cases e : n = i
    · subst e
      rw [manyF_same n (fun b hb => hne b (by omega))]
      omega
    · have := manyF_one hne i (by omega)
      rw [hne i (fun x => e x.symm)]
      omega
/-- The whole plain invariant: the map counts what each age has. -/
structure PL (D : SD) (W R : Nat) : Prop extends PK D W R where
  mcq : ∀ g, D.mc g = (manyF (cont D) g W : Int)
theorem PK.mc {D : SD} {W R : Nat} (pl : PK D W R) (m : Int → Int) : PK { D with mc := m } W R :=
  ⟨pl.hW, pl.hch, pl.hR, pl.hu, pl.R1, pl.W1, pl.rise, pl.long, pl.own, pl.frok, pl.nodup, pl.frR⟩
theorem PL.of_put {D D' : SD} {W R : Nat} (pl : PL D W R) (pk : PK D' W R) {n : Nat} (hn : n < W) {age v : Int} (hc : ∀ b g, cont D' b g = if b = n ∧ g = age then some v else cont D b g) (h0 : cont D n age = none) (hm : D'.mc = upd D.mc age (D.mc age + 1)) : PL D' W R := by
  refine ⟨pk, fun g => ?_⟩
  rw [hm]
  by_cases e : g = age
  · subst e
    rw [upd_self, pl.mcq]
    have := manyF_one (f := cont D) (f' := cont D') (g := g) (n := n) (fun b hb => by rw [hc, if_neg (fun x => hb x.1)]) W hn
    rw [hc, h0] at this
    simp at this
    omega
  · rw [upd_ne _ _ e, pl.mcq, manyF_same (f := cont D) (f' := cont D') W (fun b _ => by rw [hc, if_neg (fun x => e x.2)])]
theorem PL.of_same {D D' : SD} {W R : Nat} (pl : PL D W R) (pk : PK D' W R) (hc : ∀ b g, (cont D' b g).isSome = (cont D b g).isSome) (hm : D'.mc = D.mc) : PL D' W R :=
  ⟨pk, fun g => by rw [hm, pl.mcq, manyF_same (f := cont D) (f' := cont D') W (fun b _ => hc b g)]⟩
theorem PL.of_drop {D D' : SD} {W R : Nat} (pl : PL D W R) (pk : PK D' W R) {n : Nat} (hn : n < W) {age : Int} (hc : ∀ b g, cont D' b g = if b = n ∧ g = age then none else cont D b g) (h0 : (cont D n age).isSome = true) (hm : D'.mc = upd D.mc age (D.mc age - 1)) : PL D' W R := by
  refine ⟨pk, fun g => ?_⟩
  rw [hm]
  by_cases e : g = age
  · subst e
    rw [upd_self, pl.mcq]
    have := manyF_one (f := cont D) (f' := cont D') (g := g) (n := n) (fun b hb => by rw [hc, if_neg (fun x => hb x.1)]) W hn
    rw [hc, h0] at this
    simp at this
    omega
  · rw [upd_ne _ _ e, pl.mcq, manyF_same (f := cont D) (f' := cont D') W (fun b _ => by rw [hc, if_neg (fun x => e x.2)])]
theorem PL.bound {D : SD} {W R : Nat} (pl : PL D W R) (g : Int) : 0 ≤ D.mc g ∧ D.mc g ≤ 1000 := by
  have := manyF_le (cont D) g W
  have := pl.W1
  rw [pl.mcq]; omega
theorem PL.some {D : SD} {W R : Nat} (pl : PL D W R) {n : Nat} (hn : n < W) {g : Int} (h : (cont D n g).isSome = true) : 1 ≤ D.mc g ∧ D.mc g ≤ 1000 := by
  refine ⟨?_, (pl.bound g).2⟩
  rw [pl.mcq]
  have := manyF_one (f := cont D) (f' := fun b g' => if b = n ∧ g' = g then none else cont D b g') (g := g) (n := n) (fun b hb => by simp [hb]) W hn
  rw [h] at this
  simp at this
  omega
/-- Drop. -/
theorem drop_T {H : Heap} (hw : H.WF) {p W R : Nat} {D : SD} (h : ST H p D) (pl : PL D W R) (a age : Int) :
    ∃ r H' D', T Try.prog 9 [ptr p, iv a, iv age] H (.bool r) H' ∧ (r = true ↔ 0 ≤ a ∧ a < W ∧ (cont D a.toNat age).isSome = true) ∧ ST H' p D' ∧ PL D' W R ∧ Fm H H' p D D' ∧ D'.fr.length = D.fr.length + (if r = true then 1 else 0) ∧ ∀ b g, cont D' b g = dropF (cont D) W a age b g := by
  by_cases hin : inV D a = true
  · have hin' := hin
    simp only [inV, Bool.and_eq_true, decide_eq_true_eq, pl.hW] at hin'
    obtain ⟨n, rfl⟩ : ∃ n : Nat, a = n := ⟨a.toNat, by omega⟩
    have ha : n < D.xs.length := by rw [pl.hW]; omega
    have ha' : n < D.ch.length := by rw [pl.hch]; omega
    have hR := pl.R1
    have hll := pl.long n ha'
    obtain ⟨i, hP, pT⟩ := place_T hw h ha ha' (pl.rise n ha') (by omega) age
    by_cases hat : isAt D.ch[n] i age = true
    · have hi : i < D.ch[n].length := by
        refine Nat.lt_of_not_le fun hge => ?_
        simp [isAt, List.getElem?_eq_none hge] at hat
      have hq : D.ch[n][i].1 = age := by simpa [isAt, List.getElem?_eq_getElem hi] using hat
      rw [hat] at pT
      have hc0 : cont D n age = some (D.vals.getD D.ch[n][i].2.toNat 0) := (cont_iff pl.toPK).2 ⟨ha', _, List.getElem_mem hi, hq, rfl⟩
      have hnW : n < W := by omega
      obtain ⟨H', fb', x', tT, st, fm⟩ := drop_there hw h pl.toPK ha ha' hi pT (pl.some hnW (by rw [hc0]; rfl))
      have hcd : ∀ b g, cont { D with fb := fb', fr := D.fr ++ [D.ch[n][i].2], us := D.us.set D.ch[n][i].2.toNat false, xs := D.xs.set n x', ch := D.ch.set n (D.ch[n].eraseIdx i), mc := upd D.mc age (D.mc age - 1) } b g = if b = n ∧ g = age then none else cont D b g := fun b g => by
        have := cont_drop pl.toPK ha' hi fb' x' b g
        rw [hq] at this
        exact this
      refine ⟨true, H', _, tT, by simp [hc0]; omega, st, pl.of_drop ((pl.toPK.drop ha' hi fb' x').mc _) hnW hcd (by rw [hc0]; rfl) rfl, fm, by simp, fun b g => ?_⟩
      rw [hcd]
      unfold dropF
      simp only [Int.toNat_natCast]
      by_cases hc : b = n ∧ g = age
      · rw [if_pos hc, if_pos (by omega)]
      · rw [if_neg hc, if_neg (fun x => hc ⟨x.2.2.1, x.2.2.2⟩)]
    · have hat' : isAt D.ch[n] i age = false := by simpa using hat
      rw [hat'] at pT
      have hc0 : cont D n age = none := by
        refine Option.eq_none_iff_forall_ne_some.2 fun w hw' => ?_
        obtain ⟨_, q, hq, e, _⟩ := (cont_iff pl.toPK).1 hw'
        obtain ⟨j, hj, rfl⟩ := List.mem_iff_getElem.1 hq
        have hj1 : ¬ j < i := fun x => by have := hP.lo j hj x; omega
        by_cases hji : j = i
        · subst hji
          simp only [isAt, List.getElem?_eq_getElem hj, decide_eq_false_iff_not] at hat'
          exact hat' e
        · have h1 := List.pairwise_iff_getElem.1 (pl.rise n ha') i j (by omega) hj (by omega)
          have h2 := hP.hi i (by omega) (by omega)
          omega
      refine ⟨false, H, D, drop_none h ha pT, by simp [hc0], h, pl, Fm.refl hw p D, by simp, fun b g => ?_⟩
      unfold dropF
      simp only [Int.toNat_natCast]
      split
      · rename_i hx; rw [hx.2.2.1, hx.2.2.2, hc0]
      · rfl
  · have hin' : inV D a = false := by simpa using hin
    have hn : ¬ (0 ≤ a ∧ a < W) := by
      intro x
      apply hin
      simp only [inV, Bool.and_eq_true, decide_eq_true_eq, pl.hW]
      exact x
    refine ⟨false, H, D, drop_out h hin', by simp; omega, h, pl, Fm.refl hw p D, by simp, fun b g => ?_⟩
    unfold dropF
    rw [if_neg (fun x => hn ⟨x.1, x.2.1⟩)]
end Go.Proofs.Ythclcdboialfnaa
namespace Go.Proofs.Ythclcdboialfnaa
open Go.Ot Go.RowKit
set_option linter.unusedSimpArgs false
set_option linter.unusedVariables false
def InvDA (H : Heap) (p W R : Nat) (D0 : SD) (age : Int) (k : Nat) (t : Tm) (H1 : Heap) : Prop :=
  ∃ i D, i + k = W ∧ t 0 = ptr p ∧ t 1 = iv age ∧ t 5 = iv (manyF (cont D0) age i) ∧ t 11 = iv W ∧ t 12 = iv i ∧ ST H1 p D ∧ PL D W R ∧ Fm H H1 p D0 D ∧ D.fr.length = D0.fr.length + manyF (cont D0) age i ∧ ∀ b g, cont D b g = if b < i ∧ g = age then none else cont D0 b g
theorem dropall_T {H : Heap} (hw : H.WF) {p W R : Nat} {D : SD} (h : ST H p D) (pl : PL D W R) (age : Int) :
    ∃ v H', T Try.prog 10 [ptr p, iv age] H v H' ∧ v = iv (manyF (cont D) age W) ∧ ∃ D', ST H' p D' ∧ PL D' W R ∧ Fm H H' p D D' ∧ D'.fr.length = D.fr.length + manyF (cont D) age W ∧ ∀ b g, cont D' b g = if g = age then none else cont D b g := by
  refine T_by hm light10 ?_
  have hW1 := pl.W1
  have hxl := pl.hW
  have l2 := h.l2
  rw [hxl] at l2
  simp [L10, l2]
  refine loop_at (InvDA H p W R D age) W ?_ ?_
  · refine ⟨0, D, by omega, by simp, by simp, by simp [manyF], by simp, by simp, h, pl, Fm.refl hw p D, by simp [manyF], fun b g => by simp⟩
  · rintro k t H1 ⟨i, D1, hik, t0, t1, t5, t11, t12, st, pl1, fm, fl, hc⟩
    have hmi := manyF_le (cont D) age i
    cases k with
    | zero =>
      have e0 : i = W := by omega
      subst e0
      simp [L10_1, t5, t11, t12, packV]
      refine ⟨D1, st, pl1, fm, fl, fun b g => ?_⟩
      rw [hc]
      by_cases hg : g = age
      · by_cases hb : b < i
        · rw [if_pos ⟨hb, hg⟩, if_pos hg]
        · rw [if_neg (fun x => hb x.1), if_pos hg]
          refine Option.eq_none_iff_forall_ne_some.2 fun w hw' => ?_
          obtain ⟨h1, _⟩ := (cont_iff pl.toPK).1 hw'
          rw [pl.hch] at h1
          exact hb h1
      · rw [if_neg (fun x => hg x.2), if_neg hg]
    | succ k =>
      have hi : i < W := by omega
      have hiI : (i : Int) < (W : Int) := by omega
      obtain ⟨r, H2, D2, dT, hr, st2, pl2, fm2, fl2, hc2⟩ := drop_T fm.wf st pl1 (i : Int) age
      have w1 : IntKind.i64.wrap ((i : Int) + 1) = ((i + 1 : Nat) : Int) := by rw [w64 _ (by omega)]; omega
      have w5 : IntKind.i64.wrap ((manyF (cont D) age i : Int) + 1) = ((manyF (cont D) age i + 1 : Nat) : Int) := by rw [w64 _ (by omega)]; omega
      have hci : cont D1 i age = cont D i age := by rw [hc, if_neg (by omega)]
      have hcc : ∀ b g, cont D2 b g = if b < i + 1 ∧ g = age then none else cont D b g := by
        intro b g
        rw [hc2]
        unfold dropF
        simp only [Int.toNat_natCast]
        by_cases hg : b = i ∧ g = age
        · rw [if_pos (by omega), if_pos (by omega)]
        · rw [if_neg (by omega), hc]
          by_cases hb : b < i ∧ g = age
          · rw [if_pos hb, if_pos (by omega)]
          · rw [if_neg hb, if_neg (by omega)]
      have ms := manyF_succ (cont D) age i
      simp [L10_1, t0, t1, t5, t11, t12, hi]
      refine goT_of dT ?_
      cases r with
      | true =>
        have hs := (hr.1 rfl).2.2
        simp only [Int.toNat_natCast] at hs
        rw [hci] at hs
        rw [if_pos hs] at ms
        rw [if_pos rfl] at fl2
        simp [t0, t1, t5, t11, t12, w1, w5]
        refine ⟨k, by omega, i + 1, D2, by omega, by simp [t0], by simp [t1], by simp [ms], by simp [t11], by simp, st2, pl2, fm.trans fm2, by omega, hcc⟩
      | false =>
        have hs : ¬ (cont D i age).isSome = true := by
          intro x
          rw [← hci] at x
          exact absurd (hr.2 ⟨by omega, by omega, by simpa using x⟩) (by simp)
        rw [if_neg hs] at ms
        rw [if_neg (by simp)] at fl2
        simp [t0, t1, t5, t11, t12, w1, w5]
        refine ⟨k, by omega, i + 1, D2, by omega, by simp [t0], by simp [t1], by simp [ms, t5], by simp [t11], by simp, st2, pl2, fm.trans fm2, by omega, hcc⟩
end Go.Proofs.Ythclcdboialfnaa
