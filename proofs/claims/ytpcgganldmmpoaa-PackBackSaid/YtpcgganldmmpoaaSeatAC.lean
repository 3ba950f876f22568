/-
  The program's reader: numbers, flags, counts, texts, the end.
-/
import Derived.Test.YtpcgganldmmpoaaSeatAB
namespace Go.Proofs.Ytpcgganldmmpoaa
open Go.Ot
set_option linter.unusedSimpArgs false
set_option linter.unusedVariables false
/-- A number of its digits. -/
def unzz (u : Nat) : Int := if u % 2 = 0 then ((u / 2 : Nat) : Int) else -((u / 2 : Nat) : Int) - 1
def iS (l : List Nat) (fail : Nat) : Int × List Nat × Nat := (unzz (uS l fail).1, (uS l fail).2.1, (uS l fail).2.2)
def flagS (l : List Nat) (fail : Nat) : Bool × List Nat × Nat :=
  if 1 < (nxS l fail).1 then (false, (nxS l fail).2.1, if (nxS l fail).2.2 = 0 then 21 else (nxS l fail).2.2) else (decide ((nxS l fail).1 = 1), (nxS l fail).2.1, (nxS l fail).2.2)
def leftN (l : List Nat) (fail : Nat) : Nat := if fail = 0 then l.length else 0
def atLeast (n : Int) : Nat := if n < 1 then 1 else n.toNat
def countS (l : List Nat) (fail : Nat) (least : Int) : Nat × List Nat × Nat :=
  if leftN (uS l fail).2.1 (uS l fail).2.2 / atLeast least < (uS l fail).1 then (0, (uS l fail).2.1, if (uS l fail).2.2 = 0 then 20 else (uS l fail).2.2) else uS l fail
def textS (l : List Nat) (fail : Nat) : List Nat × List Nat × Nat :=
  if (countS l fail 1).2.2 ≠ 0 then ([], (countS l fail 1).2.1, (countS l fail 1).2.2) else ((countS l fail 1).2.1.take (countS l fail 1).1, (countS l fail 1).2.1.drop (countS l fail 1).1, 0)
def endN (l : List Nat) (fail : Nat) : Nat := if fail = 0 ∧ 0 < l.length then 21 else fail
theorem tu_fail : ∀ (k i a : Nat) (l : List Nat), (tu k i a l).2.2 ≠ 0 → (tu k i a l).1 = 0
  | 0, i, a, l, h => absurd rfl h
  | k + 1, i, a, [], h => rfl
  | k + 1, i, a, c :: l, h => by
    simp only [tu] at h ⊢
    split
    · rfl
    · rename_i h1
      rw [if_neg h1] at h
      split
      · rename_i h2
        rw [if_pos h2] at h
        exact absurd rfl h
      · rename_i h2
        rw [if_neg h2] at h
        exact tu_fail k _ _ l h
theorem uS_fail (l : List Nat) (fail : Nat) (h : (uS l fail).2.2 ≠ 0) : (uS l fail).1 = 0 := by
  unfold uS at h ⊢
  split
  · rfl
  · rename_i h1
    rw [if_neg h1] at h
    exact tu_fail _ _ _ _ h
theorem countS_le (l : List Nat) (fail : Nat) (least : Int) (h : (countS l fail least).2.2 = 0) : (countS l fail least).1 ≤ (countS l fail least).2.1.length := by
  unfold countS at h ⊢
  split
  · rename_i h1
    rw [if_pos h1] at h
    simp at h
    split at h
    · cases h
    · contradiction
  · rename_i h1
    rw [if_neg h1] at h
    simp only [leftN, h, if_true] at h1
    have : (uS l fail).2.1.length / atLeast least ≤ (uS l fail).2.1.length := Nat.div_le_self _ _
    omega
theorem countS_suf (l : List Nat) (fail : Nat) (least : Int) : (countS l fail least).2.1 <:+ l := by
  unfold countS; split <;> exact uS_suf l fail
theorem xor_0 (s : Nat) (hs : s < 9223372036854775808) : sBin .xor (.int .i64 (s : Int)) (.int .i64 0) = some (.int .i64 (s : Int)) := by
  rw [sBin_xor]
  have e : (BitVec.ofInt IntKind.i64.bits (s : Int)).toNat = s := bits_u64 s (by omega)
  have e0 : (BitVec.ofInt IntKind.i64.bits (0 : Int)).toNat = 0 := rfl
  rw [BitVec.toNat_xor, e, e0, Nat.xor_zero, w64 _ (by omega)]
theorem xor_1 (s : Nat) (hs : s < 9223372036854775808) : sBin .xor (.int .i64 (s : Int)) (.int .i64 (-1)) = some (.int .i64 (-(s : Int) - 1)) := by
  rw [sBin_xor]
  have e : (BitVec.ofInt IntKind.i64.bits (s : Int)).toNat = s := bits_u64 s (by omega)
  have e0 : (BitVec.ofInt IntKind.i64.bits (-1 : Int)).toNat = 18446744073709551615 := rfl
  rw [BitVec.toNat_xor, e, e0, xor_ones s (by omega)]
  congr 2
  simp only [IntKind.wrap, IntKind.bits, IntKind.signed]
  have : ((18446744073709551615 - s : Nat) : Int) = 18446744073709551615 - (s : Int) := by omega
  rw [this]
  simp
  omega
theorem rint_T {H : Heap} {p : Nat} {x : Value} {b l : List Nat} {fail : Nat} (h : RS H p x b l fail) :
    T Try.prog 33 [ptr p] H (.int .i64 (iS l fail).1) (H.put p (rsC x b (iS l fail).2.1 (iS l fail).2.2)) := by
  refine T_eq hm light33 ?_
  have T1 := ruint_T h
  have hlt := uS_lt l fail h.lt
  unfold iS
  obtain ⟨u, hu⟩ : ∃ u, u = (uS l fail).1 := ⟨_, rfl⟩
  rw [← hu] at T1 hlt ⊢
  obtain ⟨G, hG⟩ : ∃ G, G = H.put p (rsC x b (uS l fail).2.1 (uS l fail).2.2) := ⟨_, rfl⟩
  simp only
  rw [← hG] at T1 ⊢
  have e1 : sBin .shr (.int .u64 (u : Int)) (.int .u64 1) = some (.int .u64 ((u / 2 : Nat) : Int)) := shr_nat .u64 .u64 u 1 (by decide)
  have e2 : sBin .and (.int .u64 (u : Int)) (.int .u64 1) = some (.int .u64 ((u % 2 : Nat) : Int)) := by
    rw [sBin_and]
    have := and_u64 u 1 hlt (by omega)
    rw [Nat.and_one_is_mod] at this
    exact congrArg (fun z => some (Value.int .u64 z)) this
  obtain ⟨s, hs⟩ : ∃ s, s = u / 2 := ⟨_, rfl⟩
  have hs63 : s < 9223372036854775808 := by omega
  have e3 : IntKind.i64.wrap (s : Int) = (s : Int) := w64 _ (by omega)
  have x0 := xor_0 s hs63
  have x1 := xor_1 s hs63
  rw [← hs] at e1
  unfold unzz
  rw [← hs]
  by_cases hz : u % 2 = 0
  · rw [hz] at e2
    rw [if_pos hz]
    simp [L33]
    refine goT_of T1 ?_
    simp [e1, e2, e3, x0]
  · have h1 : u % 2 = 1 := by omega
    rw [h1] at e2
    rw [if_neg hz]
    simp [L33]
    refine goT_of T1 ?_
    simp [e1, e2, e3, x1, show IntKind.i64.wrap (-1) = -1 by decide]
theorem rflag_T {H : Heap} {p : Nat} {x : Value} {b l : List Nat} {fail : Nat} (h : RS H p x b l fail) :
    T Try.prog 34 [ptr p] H (.bool (flagS l fail).1) (H.put p (rsC x b (flagS l fail).2.1 (flagS l fail).2.2)) := by
  refine T_eq hm light34 ?_
  have T1 := next_S h
  have h2 := h.step (l2 := (nxS l fail).2.1) (nxS l fail).2.2 (nxS_suf l fail)
  have hp : ∀ c1 c2, (H.put p c1).put p c2 = H.put p c2 := fun c1 c2 => put_put _ _ _ _
  unfold flagS
  obtain ⟨c, hc⟩ : ∃ c, c = (nxS l fail).1 := ⟨_, rfl⟩
  obtain ⟨l2, hl2⟩ : ∃ l2, l2 = (nxS l fail).2.1 := ⟨_, rfl⟩
  obtain ⟨f, hf⟩ : ∃ f, f = (nxS l fail).2.2 := ⟨_, rfl⟩
  rw [← hc, ← hl2, ← hf] at T1 ⊢
  rw [← hl2, ← hf] at h2
  obtain ⟨v3, T3⟩ := stop_T h2.rd 21
  rw [hp] at T3
  obtain ⟨G, hG⟩ : ∃ G, G = H.put p (rsC x b l2 f) := ⟨_, rfl⟩
  rw [← hG] at T1 T3
  by_cases h1 : 1 < c
  · rw [if_pos h1]
    simp [L34]
    refine goT_of T1 ?_
    simp [h1]
    refine goT_of T3 ?_
    simp
  · rw [if_neg h1]
    simp only
    rw [← hG]
    simp [L34]
    refine goT_of T1 ?_
    simp [h1]
theorem rend_T {H : Heap} {p : Nat} {x : Value} {b l : List Nat} {fail : Nat} (h : RS H p x b l fail) : T Try.prog 30 [ptr p] H (.int .i64 (endN l fail : Int)) H := by
  refine T_eq hm light30 ?_
  have l0 := fun off => load_at (off := off) h.rd.hp h.rd.bp
  obtain ⟨a, c, hx⟩ := h.rd.bs.len
  have hsl := h.suf.length_le
  subst hx
  by_cases hf : fail = 0
  · subst hf
    by_cases h1 : 0 < l.length
    · have e1 : b.length - l.length < b.length := by omega
      simp [L30, l0, endN, h1, e1]
    · have e1 : ¬ b.length - l.length < b.length := by omega
      simp [L30, l0, endN, h1, e1]
  · simp [L30, l0, endN, hf]
def okI2 (n : Int) : Prop := -9223372036854775808 ≤ n ∧ n ≤ 9223372036854775807
theorem rcount_T {H : Heap} {p : Nat} {x : Value} {b l : List Nat} {fail : Nat} (h : RS H p x b l fail) (least : Int) (hle : okI2 least) :
    T Try.prog 55 [ptr p, .int .i64 least] H (.int .i64 ((countS l fail least).1 : Int)) (H.put p (rsC x b (countS l fail least).2.1 (countS l fail least).2.2)) := by
  refine T_eq hm light55 ?_
  have T1 := ruint_T h
  have hlt := uS_lt l fail h.lt
  have h2 := h.step (l2 := (uS l fail).2.1) (uS l fail).2.2 (uS_suf l fail)
  have hsl := (uS_suf l fail).length_le
  have hln := h.len
  have hp : ∀ c1 c2, (H.put p c1).put p c2 = H.put p c2 := fun c1 c2 => put_put _ _ _ _
  unfold countS
  obtain ⟨u, hu⟩ : ∃ u, u = (uS l fail).1 := ⟨_, rfl⟩
  obtain ⟨l2, hl2⟩ : ∃ l2, l2 = (uS l fail).2.1 := ⟨_, rfl⟩
  obtain ⟨f, hf⟩ : ∃ f, f = (uS l fail).2.2 := ⟨_, rfl⟩
  have hup : uS l fail = (u, l2, f) := by rw [hu, hl2, hf]
  rw [hup] at T1 ⊢
  rw [← hl2, ← hf] at h2
  rw [← hu] at hlt
  rw [← hl2] at hsl
  simp only at T1 ⊢
  have T2 := left_S h2
  obtain ⟨v3, T3⟩ := stop_T h2.rd 20
  rw [hp] at T3
  obtain ⟨m, hm'⟩ : ∃ m, m = leftN l2 f := ⟨_, rfl⟩
  have hml : m ≤ 140737488355328 := by
    rw [hm']; unfold leftN; split
    · omega
    · exact Nat.zero_le _
  have em : (if f = 0 then l2.length else 0 : Nat) = m := by rw [hm']; rfl
  rw [em] at T2
  rw [← hm']
  obtain ⟨k, hk⟩ : ∃ k, k = atLeast least := ⟨_, rfl⟩
  have hk0 : k ≠ 0 := by rw [hk]; unfold atLeast; split <;> omega
  have hkl : k ≤ 9223372036854775807 := by rw [hk]; unfold atLeast; unfold okI2 at hle; split <;> omega
  rw [← hk]
  have c1 : IntKind.u64.wrap (m : Int) = (m : Int) := wu64 _ (by omega)
  have c2 : IntKind.u64.wrap (k : Int) = (k : Int) := wu64 _ (by omega)
  have q := quo_u64 m k hk0 (by omega)
  obtain ⟨d, hd⟩ : ∃ d, d = m / k := ⟨_, rfl⟩
  have hdl : d ≤ 140737488355328 := by rw [hd]; exact Nat.le_trans (Nat.div_le_self _ _) hml
  rw [← hd] at q ⊢
  have hmax : (if least < 1 then (1 : Int) else least) = (k : Int) := by
    rw [hk]; unfold atLeast; split
    · rfl
    · omega
  obtain ⟨G, hG⟩ : ∃ G, G = H.put p (rsC x b l2 f) := ⟨_, rfl⟩
  rw [← hG] at T1 T2 T3
  by_cases hdu : d < u
  · rw [if_pos hdu]
    simp only
    simp [L55]
    refine goT_of T1 ?_
    simp
    refine goT_of T2 ?_
    simp [c1, hmax, c2, q, hdu]
    refine goT_of T3 ?_
    simp
  · rw [if_neg hdu]
    simp only
    rw [← hG]
    have c3 : IntKind.i64.wrap (u : Int) = (u : Int) := w64 _ (by omega)
    simp [L55]
    refine goT_of T1 ?_
    simp
    refine goT_of T2 ?_
    simp [c1, hmax, c2, q, hdu, c3]
/-- A part of bytes, with its room told. -/
theorem Bs.part3 {H : Heap} {x : Value} {l : List Nat} (h : Bs H x l) (lo hi : Nat) (h1 : lo ≤ hi) (h2 : hi ≤ l.length) :
    ∃ y, sSlice 1 x (some (.int .i64 (lo : Int))) (some (.int .i64 (hi : Int))) (some (.int .i64 (hi : Int))) = some y ∧ Bs H y ((l.take hi).drop lo) := by
  rcases h with ⟨rfl, rfl⟩ | ⟨b, off, c, rfl, h⟩
  · have e1 : hi = 0 := by simpa using h2
    subst e1
    have e2 : lo = 0 := by omega
    subst e2
    exact ⟨.slice none 0 0, by simp [sSlice, bnd], .inl ⟨rfl, rfl⟩⟩
  · refine ⟨.slice (some ⟨b, off + lo, none⟩) (hi - lo) 1, ?_, sub_bs (n := 0) (c := 0) h lo hi h1 h2 _⟩
    simp [sSlice, bnd, h1, h2, add_own]
theorem textS_suf (l : List Nat) (fail : Nat) : (textS l fail).2.1 <:+ l := by
  unfold textS; split
  · exact countS_suf l fail 1
  · exact (List.drop_suffix _ _).trans (countS_suf l fail 1)
theorem rtext_T {H : Heap} {p : Nat} {x : Value} {b l : List Nat} {fail : Nat} (h : RS H p x b l fail) :
    T Try.prog 35 [ptr p] H (.string (strB (textS l fail).1)) (H.put p (rsC x b (textS l fail).2.1 (textS l fail).2.2)) := by
  refine T_eq hm light35 ?_
  have T1 := rcount_T h 1 (by unfold okI2; omega)
  have h2 := h.step (l2 := (countS l fail 1).2.1) (countS l fail 1).2.2 (countS_suf l fail 1)
  have hle := countS_le l fail 1
  have hp : ∀ c1 c2, (H.put p c1).put p c2 = H.put p c2 := fun c1 c2 => put_put _ _ _ _
  unfold textS
  obtain ⟨n, hn⟩ : ∃ n, n = (countS l fail 1).1 := ⟨_, rfl⟩
  obtain ⟨l2, hl2⟩ : ∃ l2, l2 = (countS l fail 1).2.1 := ⟨_, rfl⟩
  obtain ⟨f, hf⟩ : ∃ f, f = (countS l fail 1).2.2 := ⟨_, rfl⟩
  have hup : countS l fail 1 = (n, l2, f) := by rw [hn, hl2, hf]
  rw [hup] at T1 ⊢
  rw [← hl2, ← hf] at h2
  rw [← hn, ← hl2, ← hf] at hle
  simp only at T1 ⊢
  have l2' := fun off => load_at (off := off) h2.rd.hp h2.rd.bp
  have s2 := fun off v => store_own (off := off) (v := v) h2.rd.hp h2.rd.bp
  have hs2 := h2.suf.length_le
  have hsm := h2.rd.small
  by_cases hf0 : f = 0
  case neg =>
    rw [if_pos hf0]
    simp only
    obtain ⟨G, hG⟩ : ∃ G, G = H.put p (rsC x b l2 f) := ⟨_, rfl⟩
    rw [← hG] at T1 l2' ⊢
    simp [L35]
    refine goT_of T1 ?_
    simp [l2', hf0]
    rfl
  subst hf0
  have hle' := hle rfl
  obtain ⟨at1, ha1⟩ : ∃ at1, at1 = b.length - l2.length := ⟨_, rfl⟩
  obtain ⟨at2, ha2⟩ : ∃ at2, at2 = at1 + n := ⟨_, rfl⟩
  have e1 : IntKind.i64.wrap ((at1 : Int) + (n : Int)) = (at2 : Int) := by rw [w64 _ (by omega)]; omega
  have e2 : IntKind.i64.wrap ((at2 : Int) - (n : Int)) = (at1 : Int) := by rw [w64 _ (by omega)]; omega
  have hat2 : b.length - (l2.drop n).length = at2 := by rw [List.length_drop]; omega
  have h3 := h.step (l2 := l2.drop n) 0 ((List.drop_suffix _ _).trans (by rw [hl2]; exact countS_suf l fail 1))
  rw [if_neg (by simp : ¬ (0 : Nat) ≠ 0)]
  simp only [rsC] at h3 h2 T1 l2' s2 ⊢
  rw [hat2] at h3
  rw [hat2]
  rw [← ha1] at h2 T1 l2' s2
  obtain ⟨y, hy, by'⟩ := h3.rd.bs.part3 at1 at2 (by omega) (by omega)
  have hdt : (b.take at2).drop at1 = l2.take n := by
    obtain ⟨pre, hpre⟩ := h2.suf
    have : pre.length = at1 := by rw [ha1, ← hpre]; simp
    rw [← hpre, ha2, ← this, List.take_length_add_append, List.drop_left]
  rw [hdt] at by'
  have hts := toStr_bs by'
  have l3 : ∀ off, (H.put p (rdC x at2 0)).load ⟨p, off, none⟩ = [x, .int .i64 (at2 : Int), .int .i64 0][off]? := fun off => by
    have := load_at (off := off) h3.rd.hp h3.rd.bp
    rw [hat2] at this
    exact this
  obtain ⟨G, hG⟩ : ∃ G, G = H.put p (rdC x at1 0) := ⟨_, rfl⟩
  have hG3 : H.put p (rdC x at2 0) = G.put p [x, .int .i64 (at2 : Int), .int .i64 0] := by rw [hG, hp]; rfl
  obtain ⟨G3, hG3'⟩ : ∃ G3, G3 = H.put p (rdC x at2 0) := ⟨_, rfl⟩
  rw [← hG3'] at l3 hts hG3
  rw [← hG] at T1 l2' s2
  obtain ⟨z, hz⟩ : ∃ z, z = strB (l2.take n) := ⟨_, rfl⟩
  rw [← hz] at hts
  rw [← hG3', ← hz]
  simp [L35]
  refine goT_of T1 ?_
  simp [l2', s2, e1]
  rw [← hG3]
  simp [l3, e2, hy, hts]
end Go.Proofs.Ytpcgganldmmpoaa
