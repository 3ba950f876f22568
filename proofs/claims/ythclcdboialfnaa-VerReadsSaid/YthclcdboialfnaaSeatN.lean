/-
  Chapter 21: Put and Drop whole, with the number of free places.
-/
import Derived.Test.YthclcdboialfnaaSeatM
namespace Go.Proofs.Ythclcdboialfnaa
open Go.Ot Go.RowKit
set_option linter.unusedSimpArgs false
set_option linter.unusedVariables false
theorem cont_not {D : SD} {W R : Nat} (pl : PL D W R) {n : Nat} (ha' : n < D.ch.length) {age : Int} {i : Nat} (hP : PlaceV D.ch[n] age i) (hat' : isAt D.ch[n] i age = false) : cont D n age = none := by
  refine Option.eq_none_iff_forall_ne_some.2 fun w hw' => ?_
  obtain ⟨_, q, hq, e, _⟩ := (cont_iff pl).1 hw'
  obtain ⟨j, hj, rfl⟩ := List.mem_iff_getElem.1 hq
  have hj1 : ¬ j < i := fun x => by have := hP.lo j hj x; omega
  by_cases hji : j = i
  · subst hji
    simp only [isAt, List.getElem?_eq_getElem hj, decide_eq_false_iff_not] at hat'
    exact hat' e
  · have h1 := List.pairwise_iff_getElem.1 (pl.rise n ha') i j (by omega) hj (by omega)
    have h2 := hP.hi i (by omega) (by omega)
    omega
theorem cont_at {D : SD} {W R : Nat} (pl : PL D W R) {n : Nat} (ha' : n < D.ch.length) {age : Int} {i : Nat} (hat : isAt D.ch[n] i age = true) : ∃ hi : i < D.ch[n].length, D.ch[n][i].1 = age ∧ cont D n age = some (D.vals.getD D.ch[n][i].2.toNat 0) := by
  have hi : i < D.ch[n].length := by
    refine Nat.lt_of_not_le fun hge => ?_
    simp [isAt, List.getElem?_eq_none hge] at hat
  have hq : D.ch[n][i].1 = age := by simpa [isAt, List.getElem?_eq_getElem hi] using hat
  exact ⟨hi, hq, (cont_iff pl).2 ⟨ha', _, List.getElem_mem hi, hq, rfl⟩⟩
/-- What Put answers. -/
def putE (f : Nat → Int → Option Int) (W n : Nat) (a age : Int) : Int := if ¬ (0 ≤ a ∧ a < W) then 131 else if age < 0 then 210 else if (f a.toNat age).isNone = true ∧ n = 0 then 200 else 0
theorem put_TT {H : Heap} (hw : H.WF) {p W R : Nat} {D : SD} (h : ST H p D) (pl : PL D W R) (a age v : Int) :
    ∃ H' D', T Try.prog 8 [ptr p, iv a, iv age, iv v] H (iv (putE (cont D) W D.fr.length a age)) H' ∧ ST H' p D' ∧ PL D' W R ∧ Fm H H' p D D' ∧
      D.fr.length = D'.fr.length + (if putE (cont D) W D.fr.length a age = 0 ∧ (cont D a.toNat age).isNone = true then 1 else 0) ∧
      ∀ b g, cont D' b g = if putE (cont D) W D.fr.length a age = 0 ∧ b = a.toNat ∧ g = age then some v else cont D b g := by
  by_cases hin : inV D a = true
  · have hin' := hin
    simp only [inV, Bool.and_eq_true, decide_eq_true_eq, pl.hW] at hin'
    by_cases h0 : 0 ≤ age
    · obtain ⟨n, rfl⟩ : ∃ n : Nat, a = n := ⟨a.toNat, by omega⟩
      have ha : n < D.xs.length := by rw [pl.hW]; omega
      have ha' : n < D.ch.length := by rw [pl.hch]; omega
      have hR := pl.R1
      have hll := pl.long n ha'
      obtain ⟨i, hP, pT⟩ := place_T hw h ha ha' (pl.rise n ha') (by omega) age
      have p1 : putE (cont D) W D.fr.length n age = if (cont D n age).isNone = true ∧ D.fr.length = 0 then 200 else 0 := by
        unfold putE
        rw [if_neg (by simpa using hin'), if_neg (by omega)]
        simp
      by_cases hat : isAt D.ch[n] i age = true
      · obtain ⟨hi, hq, hc0⟩ := cont_at pl ha' hat
        rw [hat] at pT
        have hv := h.putv hw (D.vals.set D.ch[n][i].2.toNat v) (by simp)
        have p0 : putE (cont D) W D.fr.length n age = 0 := by rw [p1, hc0]; simp
        rw [p0]
        refine ⟨_, _, put_there hw h pl ha ha' h0 hP hi hq pT, hv.1, pl.val _ _, hv.2, by simp [hc0], fun b g => ?_⟩
        rw [cont_val pl ha' hi, hq]
        simp
      · have hat' : isAt D.ch[n] i age = false := by simpa using hat
        have hc0 := cont_not pl ha' hP hat'
        rw [hat'] at pT
        by_cases hf : D.fr = []
        · have p0 : putE (cont D) W D.fr.length n age = 200 := by rw [p1, hc0, hf]; simp
          rw [p0]
          exact ⟨H, D, put_full h ha h0 hf pT, h, pl, Fm.refl hw p D, by simp, fun b g => by simp⟩
        · obtain ⟨fr', s, hfr⟩ : ∃ fr' s, D.fr = fr' ++ [s] := ⟨D.fr.dropLast, D.fr.getLast hf, (List.dropLast_concat_getLast _).symm⟩
          have p0 : putE (cont D) W D.fr.length n age = 0 := by rw [p1, hfr]; simp
          rw [p0]
          obtain ⟨H', x', tT, st, fm⟩ := put_new hw h pl ha ha' h0 hP.le pT hfr (v := v)
          refine ⟨H', _, tT, st, pl.new ha' hP hat' hfr x', fm, by rw [hfr]; simp [hc0], fun b g => ?_⟩
          rw [cont_new pl ha' hP hat' hfr x']
          simp
    · have p0 : putE (cont D) W D.fr.length a age = 210 := by
        unfold putE
        rw [if_neg (by simpa using hin'), if_pos (by omega)]
      rw [p0]
      exact ⟨H, D, put_age h hin (by omega), h, pl, Fm.refl hw p D, by simp, fun b g => by simp⟩
  · have hin' : inV D a = false := by simpa using hin
    have hn : ¬ (0 ≤ a ∧ a < W) := by
      intro x
      apply hin
      simp only [inV, Bool.and_eq_true, decide_eq_true_eq, pl.hW]
      exact x
    have p0 : putE (cont D) W D.fr.length a age = 131 := by
      unfold putE
      rw [if_pos hn]
    rw [p0]
    exact ⟨H, D, put_out h hin', h, pl, Fm.refl hw p D, by simp, fun b g => by simp⟩
end Go.Proofs.Ythclcdboialfnaa
