/-
  Chapter 21: what a store holds, as a function; what Put and Drop do to it.
-/
import Derived.Test.YthclcdboialfnaaSeatH
namespace Go.Proofs.Ythclcdboialfnaa
open Go.Ot Go.RowKit
set_option linter.unusedSimpArgs false
set_option linter.unusedVariables false
def cont (D : SD) (a : Nat) (g : Int) : Option Int := ((D.ch.getD a []).find? fun q => q.1 == g).map fun q => D.vals.getD q.2.toNat 0
theorem find_rise {l : List Lk} (hr : Rise l) {g : Int} {q : Lk} : (l.find? fun q => q.1 == g) = some q ↔ q ∈ l ∧ q.1 = g := by
  induction l with
  | nil => simp
  | cons p l ih =>
    have hr' := List.pairwise_cons.1 hr
    rw [List.find?_cons]
    by_cases h : p.1 = g
    · simp only [h, beq_self_eq_true, Option.some.injEq, List.mem_cons]
      constructor
      · rintro rfl; exact ⟨.inl rfl, h⟩
      · rintro ⟨rfl | hq, e⟩
        · rfl
        · have := hr'.1 q hq; omega
    · have : (p.1 == g) = false := by simp [h]
      rw [this]
      simp only [List.mem_cons]
      rw [ih hr'.2]
      constructor
      · rintro ⟨a, b⟩; exact ⟨.inr a, b⟩
      · rintro ⟨rfl | a, b⟩
        · exact absurd b h
        · exact ⟨a, b⟩
theorem cont_iff {D : SD} {W R : Nat} (pl : PL D W R) {a : Nat} {g v : Int} : cont D a g = some v ↔ ∃ h : a < D.ch.length, ∃ q ∈ D.ch[a], q.1 = g ∧ D.vals.getD q.2.toNat 0 = v := by
  unfold cont
  by_cases h : a < D.ch.length
  · simp only [List.getD, List.getElem?_eq_getElem h, Option.getD_some, Option.map_eq_some_iff, find_rise (pl.rise a h)]
    constructor
    · rintro ⟨q, ⟨h1, h2⟩, h3⟩; exact ⟨h, q, h1, h2, h3⟩
    · rintro ⟨_, q, h1, h2, h3⟩; exact ⟨q, ⟨h1, h2⟩, h3⟩
  · simp [List.getD, h]
theorem getD_setI (l : List Int) (i j : Nat) (b : Int) (hi : i < l.length) : (l.set i b).getD j 0 = if i = j then b else l.getD j 0 := by
  simp only [List.getD, List.getElem?_set]
  by_cases h : i = j
  · subst h; simp [hi]
  · simp [h]
/-- Put at an age that is there. -/
theorem cont_val {D : SD} {W R : Nat} (pl : PL D W R) {a : Nat} (ha : a < D.ch.length) {i : Nat} (hi : i < D.ch[a].length) (v : Int) (b : Nat) (g : Int) :
    cont { D with vals := D.vals.set D.ch[a][i].2.toNat v } b g = if b = a ∧ g = D.ch[a][i].1 then some v else cont D b g := by
  have pl' := pl.val D.ch[a][i].2.toNat v
  obtain ⟨own, ho⟩ := pl.own
  have hm := List.getElem_mem hi
  have hs := ho a ha _ hm
  have hsv : D.ch[a][i].2.toNat < D.vals.length := by rw [pl.hR]; omega
  refine Option.ext fun w => ?_
  rw [cont_iff pl']
  simp only
  by_cases hc : b = a ∧ g = D.ch[a][i].1
  · rw [if_pos hc]
    obtain ⟨rfl, rfl⟩ := hc
    constructor
    · rintro ⟨h, q, hq, e, hv⟩
      have h0 := ho b h q hq
      have : q = D.ch[b][i] := by
        have f1 := (find_rise (pl.rise b h) (g := q.1) (q := q)).2 ⟨hq, rfl⟩
        have f2 := (find_rise (pl.rise b h) (g := q.1) (q := D.ch[b][i])).2 ⟨hm, e.symm⟩
        rw [f1] at f2
        exact Option.some.inj f2
      rw [this, getD_setI _ _ _ _ hsv, if_pos rfl] at hv
      rw [hv]
    · intro e
      refine ⟨ha, _, hm, rfl, ?_⟩
      rw [getD_setI _ _ _ _ hsv, if_pos rfl]
      exact Option.some.inj e
  · rw [if_neg hc, cont_iff pl]
    have key : ∀ (h : b < D.ch.length), ∀ q ∈ D.ch[b], q.1 = g → (D.vals.set D.ch[a][i].2.toNat v).getD q.2.toNat 0 = D.vals.getD q.2.toNat 0 := by
      intro h q hq e
      rw [getD_setI _ _ _ _ hsv, if_neg]
      intro e2
      have h0 := (ho b h q hq).2.2.2
      rw [← e2, hs.2.2.2] at h0
      simp only [Option.some.injEq, Prod.mk.injEq] at h0
      exact hc ⟨h0.1.symm, by omega⟩
    constructor
    · rintro ⟨h, q, hq, e, hv⟩
      exact ⟨h, q, hq, e, by rw [← key h q hq e]; exact hv⟩
    · rintro ⟨h, q, hq, e, hv⟩
      exact ⟨h, q, hq, e, by rw [key h q hq e]; exact hv⟩
/-- Drop. -/
theorem cont_drop {D : SD} {W R : Nat} (pl : PL D W R) {a : Nat} (ha : a < D.ch.length) {i : Nat} (hi : i < D.ch[a].length) (fb' : Nat) (x' : Value) (b : Nat) (g : Int) :
    cont { D with fb := fb', fr := D.fr ++ [D.ch[a][i].2], us := D.us.set D.ch[a][i].2.toNat false, xs := D.xs.set a x', ch := D.ch.set a (D.ch[a].eraseIdx i) } b g = if b = a ∧ g = D.ch[a][i].1 then none else cont D b g := by
  have pl' := pl.drop ha hi fb' x'
  have hr := pl.rise a ha
  have hm : ∀ q, q ∈ D.ch[a].eraseIdx i ↔ q ∈ D.ch[a] ∧ q.1 ≠ D.ch[a][i].1 := by
    intro q
    rw [List.mem_eraseIdx_iff_getElem]
    constructor
    · rintro ⟨j, hj, hji, rfl⟩
      refine ⟨List.getElem_mem hj, ?_⟩
      rcases Nat.lt_or_gt_of_ne hji with h | h
      · have := List.pairwise_iff_getElem.1 hr j i hj hi h; omega
      · have := List.pairwise_iff_getElem.1 hr i j hi hj h; omega
    · rintro ⟨hq, hne⟩
      obtain ⟨j, hj, rfl⟩ := List.mem_iff_getElem.1 hq
      exact ⟨j, hj, fun e => hne (by simp only [e]), rfl⟩
  refine Option.ext fun w => ?_
  rw [cont_iff pl']
  simp only
  by_cases hc : b = a ∧ g = D.ch[a][i].1
  · rw [if_pos hc]
    obtain ⟨rfl, rfl⟩ := hc
    constructor
    · rintro ⟨h, q, hq, e, hv⟩
      rw [List.getElem_set_self, hm] at hq
      exact absurd e hq.2
    · intro e; cases e
  · rw [if_neg hc, cont_iff pl]
    constructor
    · rintro ⟨h, q, hq, e, hv⟩
      have h' : b < D.ch.length := by simpa using h
      refine ⟨h', q, ?_, e, hv⟩
      rw [List.getElem_set] at hq
      split at hq
      · rename_i hab; subst hab; exact ((hm q).1 hq).1
      · exact hq
    · rintro ⟨h, q, hq, e, hv⟩
      refine ⟨by simpa using h, q, ?_, e, hv⟩
      rw [List.getElem_set]
      split
      · rename_i hab; subst hab; exact (hm q).2 ⟨hq, fun e2 => hc ⟨rfl, by omega⟩⟩
      · exact hq
/-- Put at an age that isn't there. -/
theorem cont_new {D : SD} {W R : Nat} (pl : PL D W R) {a : Nat} (ha : a < D.ch.length) {age v : Int} {i : Nat} (hP : PlaceV D.ch[a] age i) (hn : isAt D.ch[a] i age = false) {fr' : List Int} {s : Int} (hfr : D.fr = fr' ++ [s]) (x' : Value) (b : Nat) (g : Int) :
    cont { D with fr := fr', us := D.us.set s.toNat true, vals := D.vals.set s.toNat v, xs := D.xs.set a x', ch := D.ch.set a (ins D.ch[a] i (age, s)) } b g = if b = a ∧ g = age then some v else cont D b g := by
  have pl' := pl.new ha hP hn hfr x' (v := v)
  have hs := pl.frok s (by rw [hfr]; simp)
  have hsv : s.toNat < D.vals.length := by rw [pl.hR]; omega
  obtain ⟨own, ho⟩ := pl.own
  have hr := ins_rise (pl.rise a ha) hP hn s
  have key : ∀ b (h : b < D.ch.length), ∀ q ∈ D.ch[b], (D.vals.set s.toNat v).getD q.2.toNat 0 = D.vals.getD q.2.toNat 0 := by
    intro b h q hq
    rw [getD_setI _ _ _ _ hsv, if_neg]
    intro e
    have := (ho b h q hq).2.2.1
    rw [← e, hs.2.2] at this
    cases this
  refine Option.ext fun w => ?_
  rw [cont_iff pl']
  simp only
  by_cases hc : b = a ∧ g = age
  · rw [if_pos hc]
    obtain ⟨rfl, rfl⟩ := hc
    constructor
    · rintro ⟨h, q, hq, e, hv⟩
      rw [List.getElem_set_self] at hq
      have f1 := (find_rise hr (g := g) (q := q)).2 ⟨hq, e⟩
      have f2 := (find_rise hr (g := g) (q := (g, s))).2 ⟨ins_mem.2 (.inr rfl), rfl⟩
      rw [f1] at f2
      rw [Option.some.inj f2, getD_setI _ _ _ _ hsv, if_pos rfl] at hv
      rw [hv]
    · intro e
      refine ⟨by simpa using ha, (g, s), ?_, rfl, ?_⟩
      · rw [List.getElem_set_self]; exact ins_mem.2 (.inr rfl)
      · rw [getD_setI _ _ _ _ hsv, if_pos rfl]; exact Option.some.inj e
  · rw [if_neg hc, cont_iff pl]
    constructor
    · rintro ⟨h, q, hq, e, hv⟩
      have h' : b < D.ch.length := by simpa using h
      have hq' : q ∈ D.ch[b] := by
        rw [List.getElem_set] at hq
        split at hq
        · rename_i hab
          subst hab
          rcases ins_mem.1 hq with h1 | rfl
          · exact h1
          · exact absurd ⟨rfl, e.symm⟩ hc
        · exact hq
      exact ⟨h', q, hq', e, by rw [← key b h' q hq']; exact hv⟩
    · rintro ⟨h, q, hq, e, hv⟩
      refine ⟨by simpa using h, q, ?_, e, by rw [key b h q hq]; exact hv⟩
      rw [List.getElem_set]
      split
      · rename_i hab; subst hab; exact ins_mem.2 (.inl hq)
      · exact hq
def putF (f : Nat → Int → Option Int) (W : Nat) (a age v : Int) (b : Nat) (g : Int) : Option Int := if 0 ≤ a ∧ a < W ∧ 0 ≤ age ∧ b = a.toNat ∧ g = age then some v else f b g
def dropF (f : Nat → Int → Option Int) (W : Nat) (a age : Int) (b : Nat) (g : Int) : Option Int := if 0 ≤ a ∧ a < W ∧ b = a.toNat ∧ g = age then none else f b g
/-- Put, where there is room. -/
theorem put_T {H : Heap} (hw : H.WF) {p W R : Nat} {D : SD} (h : ST H p D) (pl : PL D W R) (hf : 1 ≤ D.fr.length) (a age v : Int) :
    ∃ e H' D', T Try.prog 8 [ptr p, iv a, iv age, iv v] H (iv e) H' ∧ (e = 0 ↔ 0 ≤ a ∧ a < W ∧ 0 ≤ age) ∧ ST H' p D' ∧ PL D' W R ∧ Fm H H' p D D' ∧ D.fr.length ≤ D'.fr.length + 1 ∧ ∀ b g, cont D' b g = putF (cont D) W a age v b g := by
  by_cases hin : inV D a = true
  · have hin' := hin
    simp only [inV, Bool.and_eq_true, decide_eq_true_eq, pl.hW] at hin'
    by_cases h0 : 0 ≤ age
    · obtain ⟨n, rfl⟩ : ∃ n : Nat, a = n := ⟨a.toNat, by omega⟩
      have ha : n < D.xs.length := by rw [pl.hW]; omega
      have ha' : n < D.ch.length := by rw [pl.hch]; omega
      have hR := pl.R1
      have hll := pl.long n ha'
      obtain ⟨i, hP, pT⟩ := place_T hw h ha ha' (pl.rise n ha') (by omega) age
      by_cases hat : isAt D.ch[n] i age = true
      · have hi : i < D.ch[n].length := by
          refine Nat.lt_of_not_le fun hge => ?_
          simp [isAt, List.getElem?_eq_none hge] at hat
        have hq : D.ch[n][i].1 = age := by simpa [isAt, List.getElem?_eq_getElem hi] using hat
        rw [hat] at pT
        have hv := h.putv hw (D.vals.set D.ch[n][i].2.toNat v) (by simp)
        refine ⟨0, _, _, put_there hw h pl ha ha' h0 hP hi hq pT, by simp; omega, hv.1, pl.val _ _, hv.2, by simp, fun b g => ?_⟩
        rw [cont_val pl ha' hi, hq]
        unfold putF
        simp only [Int.toNat_natCast]
        by_cases hc : b = n ∧ g = age
        · rw [if_pos hc, if_pos (by omega)]
        · rw [if_neg hc, if_neg (fun x => hc ⟨x.2.2.2.1, x.2.2.2.2⟩)]
      · have hat' : isAt D.ch[n] i age = false := by simpa using hat
        rw [hat'] at pT
        obtain ⟨fr', s, hfr⟩ : ∃ fr' s, D.fr = fr' ++ [s] := ⟨D.fr.dropLast, D.fr.getLast (by intro e; rw [e] at hf; simp at hf), (List.dropLast_concat_getLast _).symm⟩
        obtain ⟨H', x', tT, st, fm⟩ := put_new hw h pl ha ha' h0 hP.le pT hfr (v := v)
        refine ⟨0, H', _, tT, by simp; omega, st, pl.new ha' hP hat' hfr x', fm, by rw [hfr]; simp, fun b g => ?_⟩
        rw [cont_new pl ha' hP hat' hfr x']
        unfold putF
        simp only [Int.toNat_natCast]
        by_cases hc : b = n ∧ g = age
        · rw [if_pos hc, if_pos (by omega)]
        · rw [if_neg hc, if_neg (fun x => hc ⟨x.2.2.2.1, x.2.2.2.2⟩)]
    · refine ⟨210, H, D, put_age h hin (by omega), by simp; omega, h, pl, Fm.refl hw p D, by omega, fun b g => ?_⟩
      unfold putF
      rw [if_neg (by omega)]
  · have hin' : inV D a = false := by simpa using hin
    have hn : ¬ (0 ≤ a ∧ a < W) := by
      intro x
      apply hin
      simp only [inV, Bool.and_eq_true, decide_eq_true_eq, pl.hW]
      exact x
    refine ⟨131, H, D, put_out h hin', by simp; omega, h, pl, Fm.refl hw p D, by omega, fun b g => ?_⟩
    unfold putF
    rw [if_neg (fun x => hn ⟨x.1, x.2.1⟩)]
/-- Drop. -/
theorem drop_T {H : Heap} (hw : H.WF) {p W R : Nat} {D : SD} (h : ST H p D) (pl : PL D W R) (a age : Int) :
    ∃ r H' D', T Try.prog 9 [ptr p, iv a, iv age] H (.bool r) H' ∧ (r = true ↔ 0 ≤ a ∧ a < W ∧ (cont D a.toNat age).isSome = true) ∧ ST H' p D' ∧ PL D' W R ∧ Fm H H' p D D' ∧ D'.fr.length = D.fr.length + (if r = true then 1 else 0) ∧ ∀ b g, cont D' b g = dropF (cont D) W a age b g := by
  by_cases hin : inV D a = true
  · have hin' := hin
    simp only [inV, Bool.and_eq_true, decide_eq_true_eq, pl.hW] at hin'
    obtain ⟨n, rfl⟩ : ∃ n : Nat, a = n := ⟨a.toNat, by omega⟩
    have ha : n < D.xs.length := by rw [pl.hW]; omega
    have ha' : n < D.ch.length := by rw [pl.hch]; omega
    have hR := pl.R1
    have hll := pl.long n ha'
    obtain ⟨i, hP, pT⟩ := place_T hw h ha ha' (pl.rise n ha') (by omega) age
    by_cases hat : isAt D.ch[n] i age = true
    · have hi : i < D.ch[n].length := by
        refine Nat.lt_of_not_le fun hge => ?_
        simp [isAt, List.getElem?_eq_none hge] at hat
      have hq : D.ch[n][i].1 = age := by simpa [isAt, List.getElem?_eq_getElem hi] using hat
      rw [hat] at pT
      obtain ⟨H', fb', x', tT, st, fm⟩ := drop_there hw h pl ha ha' hi pT
      have hc0 : cont D n age = some (D.vals.getD D.ch[n][i].2.toNat 0) := (cont_iff pl).2 ⟨ha', _, List.getElem_mem hi, hq, rfl⟩
      refine ⟨true, H', _, tT, by simp [hc0]; omega, st, pl.drop ha' hi fb' x', fm, by simp, fun b g => ?_⟩
      rw [cont_drop pl ha' hi, hq]
      unfold dropF
      simp only [Int.toNat_natCast]
      by_cases hc : b = n ∧ g = age
      · rw [if_pos hc, if_pos (by omega)]
      · rw [if_neg hc, if_neg (fun x => hc ⟨x.2.2.1, x.2.2.2⟩)]
    · have hat' : isAt D.ch[n] i age = false := by simpa using hat
      rw [hat'] at pT
      have hc0 : cont D n age = none := by
        refine Option.eq_none_iff_forall_ne_some.2 fun w hw' => ?_
        obtain ⟨_, q, hq, e, _⟩ := (cont_iff pl).1 hw'
        obtain ⟨j, hj, rfl⟩ := List.mem_iff_getElem.1 hq
        have hj1 : ¬ j < i := fun x => by have := hP.lo j hj x; omega
        by_cases hji : j = i
        · subst hji
          simp only [isAt, List.getElem?_eq_getElem hj, decide_eq_false_iff_not] at hat'
          exact hat' e
        · have h1 := List.pairwise_iff_getElem.1 (pl.rise n ha') i j (by omega) hj (by omega)
          have h2 := hP.hi i (by omega) (by omega)
          omega
      refine ⟨false, H, D, drop_none h ha pT, by simp [hc0], h, pl, Fm.refl hw p D, by simp, fun b g => ?_⟩
      unfold dropF
      simp only [Int.toNat_natCast]
      split
      · rename_i hx; rw [hx.2.2.1, hx.2.2.2, hc0]
      · rfl
  · have hin' : inV D a = false := by simpa using hin
    have hn : ¬ (0 ≤ a ∧ a < W) := by
      intro x
      apply hin
      simp only [inV, Bool.and_eq_true, decide_eq_true_eq, pl.hW]
      exact x
    refine ⟨false, H, D, drop_out h hin', by simp; omega, h, pl, Fm.refl hw p D, by simp, fun b g => ?_⟩
    unfold dropF
    rw [if_neg (fun x => hn ⟨x.1, x.2.1⟩)]
end Go.Proofs.Ythclcdboialfnaa
