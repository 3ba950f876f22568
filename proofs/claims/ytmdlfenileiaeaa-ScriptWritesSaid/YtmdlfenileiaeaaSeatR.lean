/-
  Chapter 25: the document's Parse of digits.
-/
import Derived.Test.YtmdlfenileiaeaaSeatQ
namespace Go.Proofs.Ytmdlfenileiaeaa
open Go.Ot Go.RowKit
set_option linter.unusedSimpArgs false
set_option linter.unusedVariables false
theorem foldl_val (ds : List Nat) : ∀ n, ds.foldl (fun n c => n * 10 + (c - 48)) n = n * 10 ^ ds.length + valOf ds := by
  induction ds with
  | nil => intro n; simp [valOf]
  | cons c ds ih =>
    intro n
    have e : valOf (c :: ds) = (c - 48) * 10 ^ ds.length + valOf ds := by
      unfold valOf
      rw [List.foldl_cons, ih, Nat.zero_mul, Nat.zero_add]
      rfl
    rw [List.foldl_cons, ih, e, List.length_cons, Nat.pow_succ, Nat.add_mul, Nat.mul_assoc, Nat.mul_comm 10, Nat.add_assoc]
theorem valOf_cons (c : Nat) (ds : List Nat) : valOf (c :: ds) = (c - 48) * 10 ^ ds.length + valOf ds := by
  have := foldl_val ds (c - 48)
  unfold valOf at this ⊢
  rw [List.foldl_cons, Nat.zero_mul, Nat.zero_add]
  exact this
theorem valOf_lt : ∀ (ds : List Nat), (∀ c ∈ ds, isD c = true) → valOf ds < 10 ^ ds.length
  | [], _ => by simp [valOf]
  | c :: ds, h => by
    rw [valOf_cons, List.length_cons, Nat.pow_succ]
    have h1 := valOf_lt ds (fun c hc => h c (by simp [hc]))
    have h2 := h c (by simp)
    simp only [isD, Bool.and_eq_true, decide_eq_true_eq] at h2
    have h3 : (c - 48) * 10 ^ ds.length ≤ 9 * 10 ^ ds.length := Nat.mul_le_mul_right _ (by omega)
    omega
theorem less_val : ∀ (x y : List UInt8), x.length = y.length → (∀ c ∈ x.map UInt8.toNat, isD c = true) → (∀ c ∈ y.map UInt8.toNat, isD c = true) →
    (Op.bytesLess x y = decide (valOf (x.map UInt8.toNat) < valOf (y.map UInt8.toNat))) ∧ (valOf (x.map UInt8.toNat) = valOf (y.map UInt8.toNat) → x = y)
  | [], [], _, _, _ => by simp [Op.bytesLess, valOf]
  | [], b :: y, h, _, _ => by simp at h
  | a :: x, [], h, _, _ => by simp at h
  | a :: x, b :: y, h, hx, hy => by
    have hl : x.length = y.length := by simpa using h
    obtain ⟨ih1, ih2⟩ := less_val x y hl (fun c hc => hx c (by simp at hc ⊢; exact .inr hc)) (fun c hc => hy c (by simp at hc ⊢; exact .inr hc))
    have v1 := valOf_lt (x.map UInt8.toNat) (fun c hc => hx c (by simp at hc ⊢; exact .inr hc))
    have v2 := valOf_lt (y.map UInt8.toNat) (fun c hc => hy c (by simp at hc ⊢; exact .inr hc))
    have da := hx a.toNat (by simp)
    have db := hy b.toNat (by simp)
    simp only [isD, Bool.and_eq_true, decide_eq_true_eq] at da db
    simp only [List.map_cons, valOf_cons, List.length_map] at v1 v2 ⊢
    rw [← hl] at v2 ⊢
    obtain ⟨p, hp⟩ : ∃ p, p = 10 ^ x.length := ⟨_, rfl⟩
    rw [← hp] at v1 v2 ⊢
    have cases3 : a.toNat < b.toNat ∨ a = b ∨ b.toNat < a.toNat := by
      rcases Nat.lt_trichotomy a.toNat b.toNat with h | h | h
      · exact .inl h
      · exact .inr (.inl (UInt8.toNat_inj.1 h))
      · exact .inr (.inr h)
    rcases cases3 with h | h | h
    · have h1 : (a.toNat - 48 + 1) * p ≤ (b.toNat - 48) * p := Nat.mul_le_mul_right _ (by omega)
      rw [Nat.add_mul, Nat.one_mul] at h1
      have e1 : a < b := UInt8.lt_iff_toNat_lt.2 h
      refine ⟨?_, fun e => by omega⟩
      unfold Op.bytesLess
      rw [Bool.eq_iff_iff]
      simp only [e1, decide_true, Bool.true_or, decide_eq_true_eq, true_iff]
      omega
    · subst h
      have e1 : ¬ a < a := fun h => Nat.lt_irrefl _ (UInt8.lt_iff_toNat_lt.1 h)
      refine ⟨?_, fun e => by rw [ih2 (by omega)]⟩
      unfold Op.bytesLess
      rw [ih1, Bool.eq_iff_iff]
      simp only [e1, decide_false, Bool.false_or, beq_self_eq_true, Bool.true_and, decide_eq_true_eq]
      omega
    · have h1 : (b.toNat - 48 + 1) * p ≤ (a.toNat - 48) * p := Nat.mul_le_mul_right _ (by omega)
      rw [Nat.add_mul, Nat.one_mul] at h1
      have e1 : ¬ a < b := fun h' => by have := UInt8.lt_iff_toNat_lt.1 h'; omega
      have e2 : (a == b) = false := by
        rw [beq_eq_false_iff_ne]; intro h'; subst h'; omega
      refine ⟨?_, fun e => by omega⟩
      unfold Op.bytesLess
      rw [Bool.eq_iff_iff]
      simp only [e1, e2, decide_false, Bool.false_or, Bool.false_and, Bool.false_eq_true, decide_eq_true_eq, false_iff]
      omega
def most : ByteArray := ⟨#[57, 50, 50, 51, 51, 55, 50, 48, 51, 54, 56, 53, 52, 55, 55, 53, 56, 48, 55]⟩
theorem most_bts : bts most = [57, 50, 50, 51, 51, 55, 50, 48, 51, 54, 56, 53, 52, 55, 55, 53, 56, 48, 55] := by kernel_rfl
theorem gtr_most (s : ByteArray) (hd : ∀ c ∈ bts s, isD c = true) (hl : (bts s).length = 19) : sBin .gtr (.string s) (.string most) = some (.bool (decide (9223372036854775807 < valOf (bts s)))) := by
  have hm19 : (bts most).length = 19 := by rw [most_bts]; rfl
  have hmv : valOf (bts most) = 9223372036854775807 := by rw [most_bts]; rfl
  have hmd : ∀ c ∈ bts most, isD c = true := by rw [most_bts]; decide
  obtain ⟨q1, q2⟩ := less_val s.data.toList most.data.toList (by have h1 := hl; have h2 := hm19; unfold bts at h1 h2; rw [List.length_map] at h1 h2; omega) hd hmd
  have e1 : s.data.toList.map UInt8.toNat = bts s := rfl
  have e2 : most.data.toList.map UInt8.toNat = bts most := rfl
  rw [e1, e2, hmv] at q1 q2
  show some (Value.bool (!(Op.bytesLess s.toList most.toList || s.toList == most.toList))) = _
  rw [ByteArray.toList_eq, ByteArray.toList_eq, q1]
  congr 2
  rw [Bool.eq_iff_iff]
  by_cases h : s.data.toList = most.data.toList
  · have : valOf (bts s) = 9223372036854775807 := by rw [← hmv]; unfold bts; rw [h]
    simp [h, this]
  · have : valOf (bts s) ≠ 9223372036854775807 := fun e => h (q2 e)
    have hb : (s.data.toList == most.data.toList) = false := by rw [beq_eq_false_iff_ne]; exact h
    rw [hb, Bool.or_false, decide_eq_true_eq, Bool.not_eq_true', decide_eq_false_iff_not]
    omega
theorem valOf_ge {ds : List Nat} (h0 : ds ≠ []) (hd : ∀ c ∈ ds, isD c = true) (h48 : ds.head? ≠ some 48) : 10 ^ (ds.length - 1) ≤ valOf ds := by
  cases ds with
  | nil => exact absurd rfl h0
  | cons c ds =>
    rw [valOf_cons]
    have h2 := hd c (by simp)
    simp only [isD, Bool.and_eq_true, decide_eq_true_eq] at h2
    have h3 : c ≠ 48 := fun e => h48 (by simp [e])
    have h4 : 1 * 10 ^ ds.length ≤ (c - 48) * 10 ^ ds.length := Nat.mul_le_mul_right _ (by omega)
    simp only [List.length_cons, Nat.add_sub_cancel]
    omega
/-- How long decides, but at nineteen digits. -/
theorem big_iff {ds : List Nat} (h0 : ds ≠ []) (hd : ∀ c ∈ ds, isD c = true) (h48 : ds.head? = some 48 → ds.length = 1) : (19 < ds.length → ¬ valOf ds < 9223372036854775808) ∧ (ds.length < 19 → valOf ds < 9223372036854775808) := by
  refine ⟨fun h => ?_, fun h => ?_⟩
  · have h1 := valOf_ge h0 hd (fun e => by have := h48 e; omega)
    have h2 : (10 : Nat) ^ 19 ≤ 10 ^ (ds.length - 1) := Nat.pow_le_pow_right (by decide) (by omega)
    have h3 : (10 : Nat) ^ 19 = 10000000000000000000 := by decide
    omega
  · have h1 := valOf_lt ds hd
    have h2 : (10 : Nat) ^ ds.length ≤ 10 ^ 18 := Nat.pow_le_pow_right (by decide) (by omega)
    have h3 : (10 : Nat) ^ 18 = 1000000000000000000 := by decide
    omega
theorem neq_self (s : ByteArray) : sBin .neq (.string s) (.string s) = some (.bool false) := by
  show some (Value.bool (!(s.toList == s.toList))) = _
  simp
theorem neq_zero (s : ByteArray) : sBin .neq (.string s) (.string ⟨#[48]⟩) = some (.bool (!decide (bts s = [48]))) := by
  show some (Value.bool (!(s.toList == (⟨#[48]⟩ : ByteArray).toList))) = _
  rw [ByteArray.toList_eq, ByteArray.toList_eq]
  congr 3
  rw [Bool.eq_iff_iff, beq_iff_eq, decide_eq_true_eq]
  constructor
  · intro h; unfold bts; rw [h]; rfl
  · intro h
    unfold bts at h
    have hl := congrArg List.length h
    rw [List.length_map] at hl
    obtain ⟨a, ha⟩ := List.length_eq_one_iff.1 hl
    rw [ha] at h
    have : a.toNat = 48 := by simpa using h
    have : a = 48 := UInt8.toNat_inj.1 this
    rw [ha, this]
def InvP1 (s : ByteArray) (H : Heap) (k : Nat) (t : Tm) (H1 : Heap) : Prop :=
  ∃ i : Nat, i + k = (bts s).length ∧ t 0 = .string s ∧ t 4 = .string s ∧ t 5 = iv i ∧ H1 = H
def InvP2 (s : ByteArray) (H : Heap) (k : Nat) (t : Tm) (H1 : Heap) : Prop :=
  ∃ i : Nat, i + k = (bts s).length ∧ t 0 = .string s ∧ t 4 = .string s ∧ t 7 = iv (valOf ((bts s).take i)) ∧ t 8 = iv i ∧ H1 = H
def L60t : LCode := seqR (seqR (seqR (seqR (seqR L60))))
theorem L60_eq : L60 = .seq (seqL L60) (.seq (seqL (seqR L60)) (.seq (seqL (seqR (seqR L60))) (.seq (seqL (seqR (seqR (seqR L60)))) (.seq (seqL (seqR (seqR (seqR (seqR L60))))) L60t)))) := rfl
theorem refParse_T {H : Heap} (s : ByteArray) (hd : ∀ c ∈ bts s, isD c = true) (hl : (bts s).length ≤ 100000) : T Try.prog 60 [.string s] H (.tuple #[iv (numN (bts s)), iv (numE (bts s))]) H := by
  obtain ⟨E, hE⟩ : ∃ E, E = numE (bts s) := ⟨_, rfl⟩
  obtain ⟨N, hN⟩ : ∃ N, N = numN (bts s) := ⟨_, rfl⟩
  rw [← hE, ← hN]
  unfold numN at hN
  rw [← hE] at hN
  refine T_eq hm light60 ?_
  have nself := neq_self s
  have nzero := neq_zero s
  have hsz : (s.size : Int) = (bts s).length := len_str s
  by_cases h0 : bts s = []
  · have e1 : E = 10 := by rw [hE, numE, if_pos (.inl h0)]
    have e2 : N = 0 := by rw [hN, e1]; rfl
    have hz : (s.size : Int) = 0 := by rw [hsz, h0]; rfl
    have hz' : s.size = 0 := by omega
    rw [e1, e2]
    simp [L60, hz, hz']
  · have hpos : 0 < (bts s).length := List.length_pos_iff.2 h0
    have hposI : (0 : Int) < (s.size : Int) := by rw [hsz]; omega
    have hposN : 0 < s.size := by omega
    have hneI : ((s.size : Int) == 0) = false := beq_eq_false_iff_ne.2 (by omega)
    have hneN : ¬ s.size = 0 := by omega
    have ix := idx_str s hpos
    have hc := hd (bts s)[0] (List.getElem_mem _)
    have hhead : (bts s).head? = some (bts s)[0] := by rw [List.head?_eq_getElem?]; simp [hpos]
    have hE2 : E = if (bts s)[0] = 48 ∧ 1 < (bts s).length then 10 else if valOf (bts s) < 9223372036854775808 then 0 else 11 := by
      rw [hE, numE]
      simp only [h0, false_or, hhead, Option.some.injEq]
    have h48 : ∀ (_ : ¬ ((bts s)[0] = 48 ∧ 1 < (bts s).length)), (bts s).head? = some 48 → (bts s).length = 1 := by
      intro h e
      rw [hhead] at e
      have := Option.some.inj e
      have : ¬ 1 < (bts s).length := fun h1 => h ⟨this, h1⟩
      omega
    have h48b : (bts s)[0] = 48 → (bts s = [48] ↔ ¬ 1 < (bts s).length) := by
      intro h
      constructor
      · intro e; rw [e]; decide
      · intro h1
        apply List.ext_getElem (by simp; omega)
        intro i h2 h3
        have : i = 0 := by omega
        subst this
        simpa using h
    obtain ⟨c, hcc⟩ : ∃ c, c = (bts s)[0] := ⟨_, rfl⟩
    rw [← hcc] at ix hc hE2 h48 h48b
    simp only [isD, Bool.and_eq_true, decide_eq_true_eq] at hc
    have n1 : ((c : Int) == 45) = false := by simp; omega
    have ix0 : sIdxStr (.string s) (iv 0) = some (bv c) := ix
    by_cases hz : c = 48 ∧ 1 < (bts s).length
    · have e1 : E = 10 := by rw [hE2, if_pos hz]
      have e2 : N = 0 := by rw [hN, e1]; rfl
      have hnz : ¬ bts s = [48] := fun e => (h48b hz.1).1 e hz.2
      rw [e1, e2]
      obtain ⟨hz1, _⟩ := hz
      subst hz1
      simp [L60, hposI, hposN, hneI, hneN, ix0, nzero, hnz]
    · rw [if_neg hz] at hE2
      have h48c := h48 hz
      obtain ⟨big1, big2⟩ := big_iff h0 hd h48c
      have loop1 : ∀ (t : Tm) (Q : Exit → Tm → Heap → Prop), t 0 = .string s → t 4 = .string s → t 5 = iv 0 → (∀ tt, tt 0 = .string s → tt 4 = .string s → Q (.exit 0) tt (rdy H)) → wpA Try.prog (.loop L60_1) Q t (rdy H) := by
        intro t Q t0 t4 t5 hQ
        refine loop_at (InvP1 s H) (bts s).length ⟨0, by simp, t0, t4, t5, rfl⟩ ?_
        rintro k tt H1 ⟨i, hik, u0, u4, u5, rfl⟩
        cases k with
        | zero =>
          have e1 : ¬ ((i : Int) < (s.size : Int)) := by omega
          simp [L60_1, u5, u4, e1]
          exact hQ _ (by simp [u0]) (by simp [u4])
        | succ k =>
          have hil : i < (bts s).length := by omega
          have e1 : ((i : Int) < (s.size : Int)) := by omega
          have e4 : IntKind.i64.wrap ((i : Int) + 1) = ((i + 1 : Nat) : Int) := by rw [w64 _ (by omega)]; omega
          obtain ⟨iN, hiN⟩ : ∃ n, n = i + 1 := ⟨_, rfl⟩
          rw [← hiN] at e4
          have ix := idx_str s hil
          have hc := hd (bts s)[i] (List.getElem_mem _)
          obtain ⟨c, hcc⟩ : ∃ c, c = (bts s)[i] := ⟨_, rfl⟩
          rw [← hcc] at ix hc
          simp only [isD, Bool.and_eq_true, decide_eq_true_eq] at hc
          have n2 : ¬ ((c : Int) < 48) := by omega
          have n3 : ¬ ((57 : Int) < c) := by omega
          have n2' : ¬ c < 48 := by omega
          have n3' : ¬ 57 < c := by omega
          simp [L60_1, u5, u4, e1, ix, n2, n3, n2', n3', e4]
          exact ⟨k, by omega, iN, by omega, by simp [u0], by simp [u4], by simp, rfl⟩
      have loop2 : ∀ (t : Tm) (Q : Exit → Tm → Heap → Prop), valOf (bts s) < 9223372036854775808 → t 0 = .string s → t 4 = .string s → t 7 = iv 0 → t 8 = iv 0 → (∀ tt, tt 0 = .string s → tt 4 = .string s → tt 7 = iv (valOf (bts s)) → Q (.exit 2) tt (rdy H)) → wpA Try.prog (.loop L60_2) Q t (rdy H) := by
        intro t Q hV t0 t4 t7 t8 hQ
        refine loop_at (InvP2 s H) (bts s).length ⟨0, by simp, t0, t4, by simpa [valOf] using t7, t8, rfl⟩ ?_
        rintro k tt H1 ⟨i, hik, u0, u4, u7, u8, rfl⟩
        cases k with
        | zero =>
          have e1 : ¬ ((i : Int) < (s.size : Int)) := by omega
          rw [List.take_of_length_le (by omega)] at u7
          simp [L60_2, u8, u4, e1]
          exact hQ _ (by simp [u0]) (by simp [u4]) (by simp [u7])
        | succ k =>
          have hil : i < (bts s).length := by omega
          have e1 : ((i : Int) < (s.size : Int)) := by omega
          have e4 : IntKind.i64.wrap ((i : Int) + 1) = ((i + 1 : Nat) : Int) := by rw [w64 _ (by omega)]; omega
          obtain ⟨iN, hiN⟩ : ∃ n, n = i + 1 := ⟨_, rfl⟩
          rw [← hiN] at e4
          have ix := idx_str s hil
          have hc := hd (bts s)[i] (List.getElem_mem _)
          have hsn : (bts s).take iN = (bts s).take i ++ [(bts s)[i]] := by rw [hiN, List.take_add_one]; simp [hil]
          have hval : valOf ((bts s).take iN) = valOf ((bts s).take i) * 10 + ((bts s)[i] - 48) := by rw [hsn, valOf_snoc]
          have hle := valOf_take_le (bts s) iN
          obtain ⟨c, hcc⟩ : ∃ c, c = (bts s)[i] := ⟨_, rfl⟩
          rw [← hcc] at ix hc hval
          simp only [isD, Bool.and_eq_true, decide_eq_true_eq] at hc
          obtain ⟨v, hv⟩ : ∃ v, v = valOf ((bts s).take i) := ⟨_, rfl⟩
          obtain ⟨v', hv'⟩ : ∃ v, v = valOf ((bts s).take iN) := ⟨_, rfl⟩
          rw [← hv] at hval u7
          rw [← hv'] at hval hle
          obtain ⟨d, hdd⟩ : ∃ d : Nat, d = c - 48 := ⟨_, rfl⟩
          have w1 : IntKind.u8.wrap ((c : Int) - 48) = (d : Int) := by rw [IntWalk.u8_in _ (by omega)]; omega
          have w2 : IntKind.i64.wrap (d : Int) = (d : Int) := w64 _ (by omega)
          have M1 := mul_T (H := H1) (v : Int) 10 (by unfold okI; omega)
          have A1 := add_T1 (H := H1) ((v : Int) * 10) (d : Int)
          rw [w64 _ (by omega)] at M1 A1
          have ev : (v : Int) * 10 + (d : Int) = (v' : Int) := by omega
          rw [ev] at A1
          simp [L60_2, u8, u4, e1, u7]
          refine goT_of M1 ?_
          simp [u8, u4, ix, w1, w2]
          refine goT_of A1 ?_
          simp [u8, e4]
          exact ⟨k, by omega, iN, by omega, by simp [u0], by simp [u4], by simp [hv'], by simp, rfl⟩
      have c48 : ((c : Int) == 48) = false ∨ (c = 48 ∧ bts s = [48]) := by
        by_cases h : c = 48
        · exact .inr ⟨h, (h48b h).2 (fun h1 => hz ⟨h, h1⟩)⟩
        · left; simp; omega
      have tail : ∀ tt, tt 0 = .string s → tt 4 = .string s → wpA Try.prog L60t (EndA (fun v1 H1 => v1 = .tuple #[iv N, iv E] ∧ H1 = H) [.tmp 2, .tmp 3]) tt (rdy H) := by
        intro tt u0 u4
        have hms : (⟨#[57, 50, 50, 51, 51, 55, 50, 48, 51, 54, 56, 53, 52, 55, 55, 53, 56, 48, 55]⟩ : ByteArray).size = 19 := rfl
        by_cases g1 : 19 < (bts s).length
        · have g1i : (19 : Int) < (s.size : Int) := by omega
          have g1n : 19 < s.size := by omega
          rw [if_neg (big1 g1)] at hE2
          rw [hE2, if_neg (by decide)] at hN
          rw [hE2, hN]
          simp [L60t, seqR, L60, u0, u4, nself, hms, g1i, g1n]
        · have g1i : ¬ (19 : Int) < (s.size : Int) := by omega
          have g1n : ¬ 19 < s.size := by omega
          have fin : valOf (bts s) < 9223372036854775808 → ∀ tt, tt 0 = .string s → tt 4 = .string s → wpA Try.prog (seqR (seqR (seqR L60t))) (EndA (fun v1 H1 => v1 = .tuple #[iv N, iv E] ∧ H1 = H) [.tmp 2, .tmp 3]) tt (rdy H) := by
            intro hv tt u0 u4
            rw [if_pos hv] at hE2
            rw [hE2, if_pos rfl] at hN
            rw [hE2, hN]
            simp [L60t, seqR, L60]
            refine loop2 _ _ hv (by simp [u0]) (by simp [u4]) (by simp) (by simp) ?_
            intro t2 v0 v4 v7
            simp [v0, v4, v7, nself]
          have split : L60t = .seq (seqL L60t) (.seq (seqL (seqR L60t)) (.seq (seqL (seqR (seqR L60t))) (seqR (seqR (seqR L60t))))) := rfl
          obtain ⟨rest, hrest⟩ : ∃ rest, rest = seqR (seqR (seqR L60t)) := ⟨_, rfl⟩
          rw [← hrest] at fin split
          rw [split]
          by_cases g2 : (bts s).length = 19
          · have g2i : ((s.size : Int) == 19) = true := beq_iff_eq.2 (by omega)
            have g2n : s.size = 19 := by omega
            have gm := gtr_most s hd g2
            by_cases g3 : 9223372036854775807 < valOf (bts s)
            · rw [if_neg (by omega)] at hE2
              rw [hE2, if_neg (by decide)] at hN
              rw [hE2, hN]
              rw [decide_eq_true g3] at gm
              simp only [most] at gm
              simp [L60t, seqL, seqR, L60, u0, u4, nself, hms, g1i, g1n, g2i, g2n, gm]
            · rw [decide_eq_false g3] at gm
              simp only [most] at gm
              simp [L60t, seqL, seqR, L60, u0, u4, nself, hms, g1i, g1n, g2i, g2n, gm]
              exact fin (by omega) _ (by simp [u0]) (by simp [u4])
          · have g2i : ((s.size : Int) == 19) = false := beq_eq_false_iff_ne.2 (by omega)
            have g2n : ¬ s.size = 19 := by omega
            simp [L60t, seqL, seqR, L60, u0, u4, nself, hms, g1i, g1n, g2i, g2n]
            exact fin (big2 (by omega)) _ (by simp [u0]) (by simp [u4])
      rw [L60_eq]
      rcases c48 with h | ⟨h, hb⟩
      · simp [L60, seqL, seqR, hposI, hposN, hneI, hneN, ix0, n1, h]
        exact loop1 _ _ (by simp) (by simp) (by simp) (fun tt u0 u4 => by simp; exact tail tt u0 u4)
      · subst h
        simp [L60, seqL, seqR, hposI, hposN, hneI, hneN, ix0, nzero, hb]
        exact loop1 _ _ (by simp) (by simp) (by simp) (fun tt u0 u4 => by simp; exact tail tt u0 u4)
end Go.Proofs.Ytmdlfenileiaeaa
