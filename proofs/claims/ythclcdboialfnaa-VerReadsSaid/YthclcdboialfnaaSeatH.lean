/-
  Chapter 21: the plain invariant is kept by Put and Drop.
-/
import Derived.Test.YthclcdboialfnaaSeatG
namespace Go.Proofs.Ythclcdboialfnaa
open Go.Ot Go.RowKit
set_option linter.unusedSimpArgs false
set_option linter.unusedVariables false
theorem nodup_len : ∀ (R : Nat) (l : List Int), l.Nodup → (∀ s ∈ l, 0 ≤ s ∧ s < (R : Int)) → l.length ≤ R
  | 0, l, _, h => by
    cases l with
    | nil => simp
    | cons a l => have := h a (by simp); omega
  | R + 1, l, hn, h => by
    have h1 := nodup_len R (l.erase (R : Int)) (hn.erase _) (fun s hs => by
      have hm := (hn.mem_erase_iff).1 hs
      have := h s hm.2
      have := hm.1
      omega)
    have h2 := List.le_length_erase (a := (R : Int)) (l := l)
    omega
theorem getD_set (l : List Bool) (i j : Nat) (b : Bool) (hi : i < l.length) : (l.set i b).getD j false = if i = j then b else l.getD j false := by
  simp only [List.getD, List.getElem?_set]
  by_cases h : i = j
  · subst h; simp [hi]
  · simp [h]
theorem PL.val {D : SD} {W R : Nat} (pl : PL D W R) (s : Nat) (v : Int) : PL { D with vals := D.vals.set s v } W R :=
  ⟨pl.hW, pl.hch, by simpa using pl.hR, pl.hu, pl.R1, pl.W1, pl.rise, pl.long, pl.own, pl.frok, pl.nodup, pl.frR⟩
/-- No two of one chain have one place. -/
theorem PL.slots {D : SD} {W R : Nat} (pl : PL D W R) {a : Nat} (ha : a < D.ch.length) : (D.ch[a].map (·.2)).Nodup := by
  obtain ⟨own, ho⟩ := pl.own
  have hr := pl.rise a ha
  refine List.pairwise_map.2 ?_
  refine hr.imp_of_mem ?_
  intro q q' hq hq' hlt e
  have h1 := (ho a ha q hq).2.2.2
  have h2 := (ho a ha q' hq').2.2.2
  rw [e, h2] at h1
  simp only [Option.some.injEq, Prod.mk.injEq] at h1
  omega
theorem ins_mem {l : List Lk} {i : Nat} {p q : Lk} : q ∈ ins l i p ↔ q ∈ l ∨ q = p := by
  unfold ins
  conv => rhs; rw [← List.take_append_drop i l]
  simp only [List.mem_append, List.mem_singleton]
  constructor
  · rintro ((h | h) | h)
    · exact .inl (.inl h)
    · exact .inr h
    · exact .inl (.inr h)
  · rintro ((h | h) | h)
    · exact .inl (.inl h)
    · exact .inr h
    · exact .inl (.inr h)
theorem ins_rise {l : List Lk} (hr : Rise l) {age : Int} {i : Nat} (hP : PlaceV l age i) (hn : isAt l i age = false) (s : Int) : Rise (ins l i (age, s)) := by
  have hlt : ∀ q ∈ l.take i, q.1 < age := by
    intro q hq
    obtain ⟨j, hj, rfl⟩ := List.mem_iff_getElem.1 hq
    simp only [List.length_take] at hj
    rw [List.getElem_take]
    exact hP.lo j (by omega) (by omega)
  have hgt : ∀ q ∈ l.drop i, age < q.1 := by
    intro q hq
    obtain ⟨j, hj, rfl⟩ := List.mem_iff_getElem.1 hq
    simp only [List.length_drop] at hj
    rw [List.getElem_drop]
    have h1 := hP.hi (i + j) (by omega) (by omega)
    by_cases hj0 : j = 0
    · subst hj0
      have hi : i < l.length := by omega
      simp only [isAt, List.getElem?_eq_getElem hi, decide_eq_false_iff_not] at hn
      simp only [Nat.add_zero] at h1 ⊢
      omega
    · have h2 := List.pairwise_iff_getElem.1 hr i (i + j) (by omega) (by omega) (by omega)
      have h3 := hP.hi i (by omega) (by omega)
      omega
  unfold ins Rise
  rw [List.append_assoc]
  refine List.pairwise_append.2 ⟨hr.sublist (List.take_sublist i l), List.pairwise_append.2 ⟨by simp, hr.sublist (List.drop_sublist i l), fun x hx y hy => ?_⟩, fun x hx y hy => ?_⟩
  · rw [List.mem_singleton] at hx; subst hx; exact hgt y hy
  · have h1 := hlt x hx
    rcases List.mem_append.1 hy with h | h
    · rw [List.mem_singleton] at h; subst h; exact h1
    · have := hgt y h; omega
/-- The list of chains with one put anew: who is in it. -/
theorem ch_set {ch : List (List Lk)} {a : Nat} {l' : List Lk} {P : Nat → List Lk → Prop} (h1 : a < ch.length → P a l') (h2 : ∀ b (h : b < ch.length), b ≠ a → P b ch[b]) : ∀ b (h : b < (ch.set a l').length), P b (ch.set a l')[b] := by
  intro b h
  simp only [List.length_set] at h
  rw [List.getElem_set]
  by_cases e : a = b
  · subst e; rw [if_pos rfl]; exact h1 h
  · rw [if_neg e]; exact h2 b h (fun x => e x.symm)
theorem PL.new {D : SD} {W R : Nat} (pl : PL D W R) {a : Nat} (ha : a < D.ch.length) {age v : Int} {i : Nat} (hP : PlaceV D.ch[a] age i) (hn : isAt D.ch[a] i age = false) {fr' : List Int} {s : Int} (hfr : D.fr = fr' ++ [s]) (x' : Value) :
    PL { D with fr := fr', us := D.us.set s.toNat true, vals := D.vals.set s.toNat v, xs := D.xs.set a x', ch := D.ch.set a (ins D.ch[a] i (age, s)) } W R := by
  have hs := pl.frok s (by rw [hfr]; simp)
  have hsu : s.toNat < D.us.length := by rw [pl.hu]; omega
  have nd := pl.nodup
  rw [hfr] at nd
  have nd' := List.nodup_append.1 nd
  obtain ⟨own, ho⟩ := pl.own
  have hne : ∀ b (h : b < D.ch.length), ∀ q ∈ D.ch[b], q.2.toNat ≠ s.toNat := by
    intro b h q hq e
    have := (ho b h q hq).2.2.1
    rw [e, hs.2.2] at this
    cases this
  have own' : ∀ b (h : b < (D.ch.set a (ins D.ch[a] i (age, s))).length), ∀ q ∈ (D.ch.set a (ins D.ch[a] i (age, s)))[b], 0 ≤ q.2 ∧ q.2 < R ∧ (D.us.set s.toNat true).getD q.2.toNat false = true ∧ (fun n => if n = s.toNat then some (a, age) else own n) q.2.toNat = some (b, q.1) := by
    refine ch_set (P := fun b l => ∀ q ∈ l, 0 ≤ q.2 ∧ q.2 < R ∧ (D.us.set s.toNat true).getD q.2.toNat false = true ∧ (fun n => if n = s.toNat then some (a, age) else own n) q.2.toNat = some (b, q.1)) (fun _ q hq => ?_) (fun b h hb q hq => ?_)
    · rcases ins_mem.1 hq with hq | rfl
      · have h0 := ho a ha q hq
        have h1 := hne a ha q hq
        refine ⟨h0.1, h0.2.1, ?_, ?_⟩
        · rw [getD_set _ _ _ _ hsu, if_neg (fun e => h1 e.symm)]; exact h0.2.2.1
        · simp only [h1, if_false]; exact h0.2.2.2
      · refine ⟨hs.1, hs.2.1, ?_, ?_⟩
        · rw [getD_set _ _ _ _ hsu, if_pos rfl]
        · simp
    · have h0 := ho b h q hq
      have h1 := hne b h q hq
      refine ⟨h0.1, h0.2.1, ?_, ?_⟩
      · rw [getD_set _ _ _ _ hsu, if_neg (fun e => h1 e.symm)]; exact h0.2.2.1
      · simp only [h1, if_false]; exact h0.2.2.2
  have hl : (ins D.ch[a] i (age, s)).length ≤ R := by
    have hset : (D.ch.set a (ins D.ch[a] i (age, s))).length = D.ch.length := by simp
    have hr := ins_rise (pl.rise a ha) hP hn s
    have nd2 : ((ins D.ch[a] i (age, s)).map (·.2)).Nodup := by
      refine List.pairwise_map.2 ?_
      refine hr.imp_of_mem ?_
      intro q q' hq hq' hlt e
      have h1 := own' a (by rw [hset]; exact ha) q (by simpa using hq)
      have h2 := own' a (by rw [hset]; exact ha) q' (by simpa using hq')
      have h3 := h1.2.2.2
      rw [e, h2.2.2.2] at h3
      simp only [Option.some.injEq, Prod.mk.injEq] at h3
      omega
    have := nodup_len R _ nd2 (fun t ht => by
      obtain ⟨q, hq, rfl⟩ := List.mem_map.1 ht
      have h1 := own' a (by rw [hset]; exact ha) q (by simpa using hq)
      exact ⟨h1.1, h1.2.1⟩)
    simpa using this
  refine ⟨by simpa using pl.hW, by simpa using pl.hch, by simpa using pl.hR, by simpa using pl.hu, pl.R1, pl.W1, ?_, ?_, ⟨fun n => if n = s.toNat then some (a, age) else own n, own'⟩, fun t ht => ?_, nd'.1, ?_⟩
  · exact ch_set (P := fun _ l => Rise l) (fun _ => ins_rise (pl.rise a ha) hP hn s) (fun b h _ => pl.rise b h)
  · exact ch_set (P := fun _ l => l.length ≤ R) (fun _ => hl) (fun b h _ => pl.long b h)
  · have h1 := pl.frok t (by rw [hfr]; simp; exact .inl ht)
    have h2 : t ≠ s := nd'.2.2 t ht s (by simp)
    refine ⟨h1.1, h1.2.1, ?_⟩
    simp only
    rw [getD_set _ _ _ _ hsu, if_neg (by omega)]
    exact h1.2.2
  · have := pl.frR
    rw [hfr] at this
    simp at this
    simp only
    omega
theorem PL.drop {D : SD} {W R : Nat} (pl : PL D W R) {a : Nat} (ha : a < D.ch.length) {i : Nat} (hi : i < D.ch[a].length) (fb' : Nat) (x' : Value) :
    PL { D with fb := fb', fr := D.fr ++ [D.ch[a][i].2], us := D.us.set D.ch[a][i].2.toNat false, xs := D.xs.set a x', ch := D.ch.set a (D.ch[a].eraseIdx i) } W R := by
  obtain ⟨own, ho⟩ := pl.own
  have hs := ho a ha _ (List.getElem_mem hi)
  have hsl := pl.slots ha
  obtain ⟨p, hp⟩ : ∃ p, p = D.ch[a][i] := ⟨_, rfl⟩
  have hmem : ∀ q ∈ D.ch[a].eraseIdx i, q ∈ D.ch[a] := fun q hq => List.mem_of_mem_eraseIdx hq
  have hsub : (D.ch[a].eraseIdx i).Sublist D.ch[a] := List.eraseIdx_sublist D.ch[a] i
  have hnq : ∀ q ∈ D.ch[a].eraseIdx i, q.2 ≠ D.ch[a][i].2 := by
    intro q hq e
    obtain ⟨j, hj, hji, rfl⟩ := (List.mem_eraseIdx_iff_getElem).1 hq
    have h1 := List.pairwise_iff_getElem.1 hsl
    simp only [List.length_map, List.getElem_map] at h1
    rcases Nat.lt_or_gt_of_ne hji with h | h
    · exact h1 j i hj hi h e
    · exact h1 i j hi hj h e.symm
  rw [← hp] at hs hnq ⊢
  have hsu : p.2.toNat < D.us.length := by rw [pl.hu]; omega
  have hfn : p.2 ∉ D.fr := by
    intro h
    have := (pl.frok _ h).2.2
    rw [hs.2.2.1] at this
    cases this
  have own' : ∀ b (h : b < (D.ch.set a (D.ch[a].eraseIdx i)).length), ∀ q ∈ (D.ch.set a (D.ch[a].eraseIdx i))[b], 0 ≤ q.2 ∧ q.2 < R ∧ (D.us.set p.2.toNat false).getD q.2.toNat false = true ∧ own q.2.toNat = some (b, q.1) := by
    refine ch_set (P := fun b l => ∀ q ∈ l, 0 ≤ q.2 ∧ q.2 < R ∧ (D.us.set p.2.toNat false).getD q.2.toNat false = true ∧ own q.2.toNat = some (b, q.1)) (fun _ q hq => ?_) (fun b h hb q hq => ?_)
    · have h0 := ho a ha q (hmem q hq)
      have h1 := hnq q hq
      refine ⟨h0.1, h0.2.1, ?_, h0.2.2.2⟩
      rw [getD_set _ _ _ _ hsu, if_neg (by omega)]; exact h0.2.2.1
    · have h0 := ho b h q hq
      refine ⟨h0.1, h0.2.1, ?_, h0.2.2.2⟩
      rw [getD_set _ _ _ _ hsu, if_neg (fun e => ?_)]
      · exact h0.2.2.1
      · have h3 := h0.2.2.2
        rw [← e, hs.2.2.2] at h3
        simp only [Option.some.injEq, Prod.mk.injEq] at h3
        omega
  have nd : (D.fr ++ [p.2]).Nodup := List.nodup_append.2 ⟨pl.nodup, by simp, fun x hx y hy e => by
    rw [List.mem_singleton] at hy
    subst hy; subst e
    exact hfn hx⟩
  have fo : ∀ s ∈ D.fr ++ [p.2], 0 ≤ s ∧ s < R ∧ (D.us.set p.2.toNat false).getD s.toNat false = false := by
    intro s h
    rcases List.mem_append.1 h with h | h
    · have h0 := pl.frok s h
      refine ⟨h0.1, h0.2.1, ?_⟩
      rw [getD_set _ _ _ _ hsu]
      split
      · rfl
      · exact h0.2.2
    · rw [List.mem_singleton] at h
      subst h
      refine ⟨hs.1, hs.2.1, ?_⟩
      rw [getD_set _ _ _ _ hsu, if_pos rfl]
  refine ⟨by simpa using pl.hW, by simpa using pl.hch, pl.hR, by simpa using pl.hu, pl.R1, pl.W1, ?_, ?_, ⟨own, own'⟩, fo, nd, nodup_len R _ nd fun s h => ⟨(fo s h).1, (fo s h).2.1⟩⟩
  · exact ch_set (P := fun _ l => Rise l) (fun _ => (pl.rise a ha).sublist hsub) (fun b h _ => pl.rise b h)
  · exact ch_set (P := fun _ l => l.length ≤ R) (fun _ => Nat.le_trans hsub.length_le (pl.long a ha)) (fun b h _ => pl.long b h)
end Go.Proofs.Ythclcdboialfnaa
