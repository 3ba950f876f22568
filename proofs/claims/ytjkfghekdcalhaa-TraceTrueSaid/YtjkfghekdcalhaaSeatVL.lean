/-
  Chapter 27: a text that may be is one that a machine can run. Chapter 27: plan.At; fold.Task of a job that may be. Chapter 27: fold.Task of a job that may be, at an age that it has.
-/
import Derived.Test.YtjkfghekdcalhaaSeatVI
namespace Go.Proofs.Ytjkfghekdcalhaa
open Go.Ot Go.RowKit
open I8 (In rowI)
set_option linter.unusedSimpArgs false
set_option linter.unusedVariables false
theorem in_ok {x : In} {cells : Int} {long : Nat} (h : I8.oneV x cells long = 0) : InOk x long := by
  unfold I8.oneV at h
  split at h
  · cases h
  rename_i hv
  split at h
  · cases h
  rename_i h2
  split at h
  · cases h
  rename_i h3
  split at h
  · cases h
  rename_i h4
  split at h
  · cases h
  rename_i h5
  split at h
  · cases h
  rename_i h6
  have hv' : I8.valid x.kind = true := by simpa using hv
  rcases I8.kinds hv' with hk | hk | hk | hk | hk | hk | hk | hk | hk | hk | hk | hk | hk <;>
    (simp [I8.c3V, I8.c4V, I8.c5V, I8.c6V, I8.badR, I8.shp, I8.none8, hk] at h3 h4 h5 h6
     refine ⟨?_, ?_, ?_, ?_⟩ <;> (try rw [hk]) <;> omega)
theorem fst_none {cells long : Int} : ∀ {l : List In} {i : Nat}, I8.fstBad cells long l i = none → ∀ x ∈ l, I8.oneV x cells long = 0
  | [], i, h, x, hx => by cases hx
  | y :: l, i, h, x, hx => by
    simp only [I8.fstBad] at h
    split at h
    · rename_i h0
      rcases List.mem_cons.1 hx with rfl | hx
      · exact h0
      · exact fst_none h x hx
    · cases h
theorem fst_ne0 {cells long : Int} : ∀ {l : List In} {i : Nat} {r : Nat} {e : Int}, I8.fstBad cells long l i = some (r, e) → e ≠ 0
  | [], i, r, e, h => by simp [I8.fstBad] at h
  | y :: l, i, r, e, h => by
    simp only [I8.fstBad] at h
    split at h
    · exact fst_ne0 h
    · rename_i h0
      cases h
      exact h0
theorem code_ok {code : List In} {cells : Int} (h : (I8.checkV code cells).2 = 0) : CodeOk code := by
  unfold I8.checkV at h
  split at h
  · cases h
  · rename_i hl
    split at h
    · rename_i i e hf
      have := fst_ne0 hf
      exact absurd h this
    · rename_i hf
      split at h
      · cases h
      · rename_i hfa
        intro i hi
        refine ⟨in_ok (fst_none hf _ (List.getElem_mem hi)), fun e => ?_⟩
        have hk : I8.lastK code = code[i].kind := by
          rw [I8.last_row (by omega)]
          simp only [show code.length - 1 = i by omega]
        rw [hk] at hfa
        simp [I8.fallsV] at hfa
        omega
end Go.Proofs.Ytjkfghekdcalhaa
namespace Go.Proofs.Ytjkfghekdcalhaa
open Go.Ot Go.RowKit
open R14 (ci)
open I8 (In rowI)
set_option linter.unusedSimpArgs false
set_option linter.unusedVariables false
def atV (S : Shp) (age : Int) : Int × Int × Int :=
  if age < 0 ∨ (cntP S).1 ≤ age then (0, 0, 210) else if S.kind = 2 then (IntKind.i64.wrap (age.tdiv S.stages), age.tmod S.stages, 0) else (IntKind.i64.wrap (S.lo + IntKind.i64.wrap (age * S.step)), 0, 0)
theorem at_T {H : Heap} (hw : H.WF) (S : Shp) (ok : ShpOk S) (hv : (cntP S).2 = 0) (age : Int) : T Try.prog 31 [.agg (shpC S).toArray, iv age] H (.tuple #[iv (atV S age).1, iv (atV S age).2.1, iv (atV S age).2.2]) H := by
  refine T_seen hm light31 rfl ?_
  obtain ⟨HA, hHA⟩ : ∃ HA, HA = H.new 26 6 (shpC S) := ⟨_, rfl⟩
  have onA : On H HA := by rw [hHA]; exact (On.refl hw).new _ _ _
  have vA : Vr HA H.next 26 6 (shpC S) := by rw [hHA]; exact Vr.mk' hw _ _ _
  have lA := vA.loadA (m := 6) rfl
  have l0 : HA.load ⟨H.next, 0, none⟩ = some (iv S.kind) := vA.load 0
  have l1 : HA.load ⟨H.next, 1, none⟩ = some (iv S.lo) := vA.load 1
  have l3 : HA.load ⟨H.next, 3, none⟩ = some (iv S.step) := vA.load 3
  have l5 : HA.load ⟨H.next, 5, none⟩ = some (iv S.stages) := vA.load 5
  have cT := count_T onA.wf S ok
  rw [hv] at cT
  have hHA2 : H.new 26 6 [iv S.kind, iv S.lo, iv S.hi, iv S.step, iv S.items, iv S.stages] = HA := hHA.symm
  obtain ⟨n, hn⟩ : ∃ n, n = (cntP S).1 := ⟨_, rfl⟩
  rw [← hn] at cT
  obtain ⟨R, hR⟩ : ∃ R, R = atV S age := ⟨_, rfl⟩
  rw [← hR]
  unfold atV at hR
  rw [← hn] at hR
  have hst : S.kind = 2 → S.stages ≠ 0 := fun h => by
    unfold cntP at hv
    rw [if_neg (by omega)] at hv
    split at hv
    · omega
    · cases hv
  by_cases h0 : age < 0
  · rw [if_pos (.inl h0)] at hR
    simp [L31, hHA2, lA]
    refine goT_of cT ?_
    simp [h0, packV, hR]
    exact onA.keep
  by_cases h1 : n ≤ age
  · rw [if_pos (.inr h1)] at hR
    simp [L31, hHA2, lA]
    refine goT_of cT ?_
    simp [h0, h1, packV, hR]
    exact onA.keep
  rw [if_neg (by omega)] at hR
  by_cases h2 : S.kind = 2
  · have e2 : (S.kind == 2) = true := by simp [h2]
    have qu : sBin .quo (iv age) (iv S.stages) = some (iv (IntKind.i64.wrap (age.tdiv S.stages))) := by simp [sBin, iBin, hst h2]
    have rm : sBin .rem (iv age) (iv S.stages) = some (iv (age.tmod S.stages)) := by rw [sBin_rem, if_neg (hst h2)]
    rw [if_pos h2] at hR
    simp [L31, hHA2, lA]
    refine goT_of cT ?_
    simp [h0, h1, l0, e2, l5, qu, rm, packV, hR]
    exact onA.keep
  · have e2 : (S.kind == 2) = false := by simp [h2]
    rw [if_neg h2] at hR
    simp [L31, hHA2, lA]
    refine goT_of cT ?_
    simp [h0, h1, l0, e2, l1, l3, packV, hR]
    exact onA.keep
theorem codes_ok {n : Int} : ∀ {l : List (List In)}, codeE n l = 0 → ∀ c ∈ l, (I8.checkV c n).2 = 0
  | [], h, c, hc => by cases hc
  | d :: l, h, c, hc => by
    simp only [codeE] at h
    split at h
    · rename_i h1; exact absurd h h1
    · rename_i h1
      rcases List.mem_cons.1 hc with rfl | hc
      · simpa using h1
      · exact codes_ok h c hc
/-- What stands of a job that may be. -/
structure JV (J : Jb) : Prop where
  w : 1 ≤ J.words ∧ J.words ≤ 64
  f : 1 ≤ J.fuel ∧ J.fuel ≤ 4000
  c : (cntP J.S).2 = 0
  k : (J.codes.length : Int) = stgV J.S
  e : ∀ c ∈ J.codes, (I8.checkV c J.reds.length).2 = 0
theorem JV.of {J : Jb} (h : validE J = 0) : JV J := by
  unfold validE at h
  split at h
  · rename_i h1; exact absurd h h1
  rename_i h1
  split at h
  · rename_i h2; exact absurd h h2
  split at h
  · cases h
  rename_i h3
  split at h
  · rename_i h4; exact absurd h h4
  rename_i h4
  split at h
  · cases h
  rename_i h5
  refine ⟨?_, by omega, by simpa using h4, by simpa using h5, codes_ok h⟩
  simp only [ne_eq, Decidable.not_not] at h1
  unfold ofE at h1
  split at h1
  · cases h1
  · omega
theorem at_stage {J : Jb} (h : JV J) {age : Int} (h0 : ¬ (age < 0 ∨ (cntP J.S).1 ≤ age)) : 0 ≤ (atV J.S age).2.1 ∧ (atV J.S age).2.1 < J.codes.length := by
  have hk := h.k
  have hc := h.c
  unfold stgV at hk
  unfold atV
  rw [if_neg h0]
  split
  · rename_i h2
    rw [if_pos h2] at hk
    have hs : 1 ≤ J.S.stages := by
      unfold cntP at hc
      rw [if_neg (by omega)] at hc
      split at hc
      · omega
      · cases hc
    simp only
    rw [hk]
    exact ⟨Int.tmod_nonneg _ (by omega), Int.tmod_lt_of_pos _ (by omega)⟩
  · rename_i h2
    rw [if_neg h2] at hk
    simp only
    omega
end Go.Proofs.Ytjkfghekdcalhaa
namespace Go.Proofs.Ytjkfghekdcalhaa
open Go.Ot Go.RowKit
open R14 (ci)
open I8 (In rowI)
set_option linter.unusedSimpArgs false
set_option linter.unusedVariables false
/-- What the task of an age does on a memory. -/
def taskV (J : Jb) (age : Int) (mem : List Int) : Ms × Wl :=
  runM (J.codes.getD (atV J.S age).2.1.toNat []) mem.length J.fuel (J.fuel.toNat + 1) (startM age (atV J.S age).1 (atV J.S age).2.1, ⟨mem, [], []⟩)
theorem task_E {H : Heap} (hw : H.WF) {J : Jb} (ok : JbOk H J) (hv : validE J = 0) {age : Int} (h0 : ¬ (age < 0 ∨ (cntP J.S).1 ≤ age)) {xm : Value} {mem : List Int} (hm' : Ints H .i64 xm mem) (hlen : (mem.length : Int) = J.words) :
    TE Try.prog 21 [.agg (jobC J).toArray, iv age, xm] H (RunVQ H (taskV J age mem)) := by
  refine TE_by hm light21 ?_
  have jv := JV.of hv
  obtain ⟨HA, hHA⟩ : ∃ HA, HA = H.new 29 11 (jobC J) := ⟨_, rfl⟩
  have onA : On H HA := by rw [hHA]; exact (On.refl hw).new _ _ _
  have vA : Vr HA H.next 29 11 (jobC J) := by rw [hHA]; exact Vr.mk' hw _ _ _
  have nA : HA.next = H.next + 1 := by rw [hHA]; rfl
  obtain ⟨HB, hHB⟩ : ∃ HB, HB = HA.new 67 6 [.slice none 0 0, .slice none 0 0, .slice none 0 0, iv 0, iv 0, iv 0] := ⟨_, rfl⟩
  have onB : On HA HB := by rw [hHB]; exact (On.refl onA.wf).new _ _ _
  have vB : Vr HB (H.next + 1) 67 6 [.slice none 0 0, .slice none 0 0, .slice none 0 0, iv 0, iv 0, iv 0] := by rw [hHB, ← nA]; exact Vr.mk' onA.wf _ _ _
  have nB : HB.next = H.next + 2 := by rw [hHB]; simp [nA]
  have JB := JL.of (vA.on onA.wf onB)
  have lA := JB.lA
  have l0 := JB.l0
  have l2 := JB.l2
  have l3 := JB.l3
  have lS := JB.lS
  have l10 := JB.l10
  have onHB := onA.trans onB
  have wB := onHB.wf
  have okB := ok.on hw onHB
  have vT := valid_T wB okB
  rw [hv] at vT
  have aT := at_T wB J.S ok.S jv.c age
  have a0 : (atV J.S age).2.2 = 0 := by
    unfold atV
    rw [if_neg h0]
    split <;> rfl
  rw [a0] at aT
  obtain ⟨g0, g1⟩ := at_stage jv h0
  obtain ⟨V, hV⟩ : ∃ V, V = taskV J age mem := ⟨_, rfl⟩
  rw [← hV]
  unfold taskV at hV
  obtain ⟨ix, hix⟩ : ∃ z, z = (atV J.S age).1 := ⟨_, rfl⟩
  obtain ⟨st, hst⟩ : ∃ z : Nat, (atV J.S age).2.1 = z := ⟨(atV J.S age).2.1.toNat, by omega⟩
  rw [hst] at aT g0 g1 hV
  rw [← hix] at aT hV
  have hsl : st < J.codes.length := by omega
  obtain ⟨b, off, c, yc, hxk, ldc, rc⟩ := okB.xk.at hsl
  have hget : J.codes.getD ((st : Nat) : Int).toNat [] = J.codes[st] := by simp [List.getD, hsl]
  rw [hget] at hV
  have hcv := jv.e _ (List.getElem_mem hsl)
  have jf := jv.f
  have jw := jv.w
  have hmB := hm'.keep hw onHB.base onHB.keep
  have rE := runVM_E wB rc (code_ok hcv) (J.reds.length : Int) J.fuel age ix st hcv jf hmB (by omega)
  rw [← hV] at rE
  obtain ⟨ax, cx, hxm⟩ := hm'.len
  have lm : sLenL xm = some (iv mem.length) := by rw [hxm]; rfl
  have m1 : notTup xm = true := by rw [hxm]; rfl
  have m2 : xm.cells.size = 1 := by rw [hxm]; rfl
  have m3 : xm.cells.toList = [xm] := by rw [hxm]; rfl
  have hHA2 : H.new 29 11 [iv J.words, J.xc, J.xr, iv J.fuel, iv J.S.kind, iv J.S.lo, iv J.S.hi, iv J.S.step, iv J.S.items, iv J.S.stages, J.xk] = HA := hHA.symm
  obtain ⟨ar, cr, hxr⟩ := ok.xr.len
  rw [hxr] at l2
  rw [hxk] at l10
  have hwe : ((mem.length : Int) != J.words) = false := by simp [hlen]
  simp [L21, hHA2, ← hHB, nA, lA]
  refine goT_of vT ?_
  simp [lm, l0, hwe, lS]
  refine goT_of aT ?_
  simp [l10, hsl, ldc, l2, l3, m1, m2, m3]
  refine goA_of wB rE ?_
  rintro o H1 ⟨on1, ym, yo, yi, rfl, o1, o2, o3, nb⟩ w1 b1 n1
  have v1 := vB.on wB on1
  have s1 := v1.storeA (m := 6) (by decide) [ym, yo, yi, iv V.1.over, iv V.1.value, iv V.1.steps] rfl rfl
  obtain ⟨H2, hH2⟩ : ∃ H2, H2 = H1.put (H.next + 1) [ym, yo, yi, iv V.1.over, iv V.1.value, iv V.1.steps] := ⟨_, rfl⟩
  have ld2 : H2.loadN ⟨H.next + 1, 0, none⟩ 0 6 = some [ym, yo, yi, iv V.1.over, iv V.1.value, iv V.1.steps] := by rw [hH2]; exact (v1.put _).loadA rfl
  rw [← hH2] at s1
  simp [s1, ld2]
  have kp : ∀ {ety sz m : Nat} {cs : List Value} {y : Value} (h : Own H1 ety sz m cs y), (∀ b, blkOf y = some b → HB.next ≤ b) → Own H2 ety sz m cs y := fun h h1 => h.keep (by rw [hH2]; simp) (fun b hb => by have := h1 b hb; rw [hH2]; simp [show b ≠ H.next + 1 by omega])
  exact ⟨by rw [hH2]; exact (onHB.trans on1).put (by omega) _, ym, yo, yi, rfl, kp o1 (fun b hb => nb b (.inl hb)), kp o2 (fun b hb => nb b (.inr (.inl hb))), kp o3 (fun b hb => nb b (.inr (.inr hb))), fun b hb => by have := nb b hb; omega⟩
end Go.Proofs.Ytjkfghekdcalhaa
