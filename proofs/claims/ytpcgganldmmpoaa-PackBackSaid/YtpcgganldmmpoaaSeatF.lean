/-
  Numbers out of bytes; the opening of seals.
-/
import Derived.Test.YtpcgganldmmpoaaSeatE
import Derived.ChangeKeysEq
import Derived.Laws.StructEq
namespace Go.Proofs.Ytpcgganldmmpoaa
open Go.Ot
set_option linter.unusedSimpArgs false
set_option linter.unusedVariables false
/-- The number that these bytes are, the lowest first. -/
def leN : List Nat → Nat
  | [] => 0
  | b :: l => b + 256 * leN l
theorem leN_lt : ∀ (l : List Nat), (∀ b ∈ l, b < 256) → leN l < 256 ^ l.length
  | [], _ => by simp [leN]
  | b :: l, h => by
    have h1 := leN_lt l (fun c hc => h c (by simp [hc]))
    have h2 := h b (by simp)
    simp only [leN, List.length_cons, Nat.pow_succ]
    omega
theorem or_low (a b : Nat) (hb : b < 256) : (a * 256) ||| b = b + 256 * a := by
  have h := Nat.shiftLeft_add_eq_or_of_lt (i := 8) (b := b) (by simpa using hb) a
  rw [Nat.shiftLeft_eq] at h
  rw [show (2 : Nat) ^ 8 = 256 from rfl] at h
  omega
def InvG (H : Heap) (x : Value) (l : List Nat) (k : Nat) (t : Tm) (H1 : Heap) : Prop :=
  k ≤ l.length ∧ t 0 = x ∧ t 3 = .int .u64 ((leN (l.drop k) : Nat) : Int) ∧ t 4 = .int .i64 ((k : Int) - 1) ∧ H1 = H
theorem got_T {H : Heap} {x : Value} {l : List Nat} (h : Bs H x l) (hb : ∀ b ∈ l, b < 256) (hl : l.length ≤ 8) : T Try.prog 46 [x] H (.int .u64 ((leN l : Nat) : Int)) H := by
  refine T_eq hm light46 ?_
  obtain ⟨xa, xc, hxl⟩ := h.len
  have e0 : IntKind.i64.wrap ((l.length : Int) - 1) = (l.length : Int) - 1 := w64 _ (by omega)
  rw [hxl]
  simp [L46, e0]
  rw [← hxl]
  refine loop_at (InvG H x l) l.length ?_ ?_
  · exact ⟨Nat.le_refl _, by simp, by simp [leN], by simp, rfl⟩
  · rintro k t H1 ⟨hk, t0, t3, t4, rfl⟩
    cases k with
    | zero =>
      simp at t3
      simp [L46_1, t3, t4]
    | succ k =>
      have hi : k < l.length := by omega
      have hi' : (k : Int) < l.length := by omega
      obtain ⟨b, off, c, hx, hld⟩ := h.at hi
      have hlt := hb _ (List.getElem_mem hi)
      obtain ⟨a, ha⟩ : ∃ a, a = leN (l.drop (k + 1)) := ⟨_, rfl⟩
      have hal : a < 256 ^ 7 := by
        rw [ha]
        refine Nat.lt_of_lt_of_le (leN_lt _ (fun b hb' => hb b (List.mem_of_mem_drop hb'))) ?_
        refine Nat.pow_le_pow_right (by decide) ?_
        simp; omega
      rw [← ha] at t3
      obtain ⟨s, hs⟩ : ∃ s, s = a * 256 := ⟨_, rfl⟩
      have e1 : sBin .shl (.int .u64 (a : Int)) (.int .u64 8) = some (.int .u64 (s : Int)) := by
        have := shl_u64 .u64 a 8 (by decide)
        rw [show a * 2 ^ 8 % 18446744073709551616 = s by omega] at this
        exact this
      have e2 : IntKind.u64.wrap ((l[k] : Nat) : Int) = ((l[k] : Nat) : Int) := wu64 _ (by omega)
      have e3 : sBin .or (.int .u64 (s : Int)) (.int .u64 ((l[k] : Nat) : Int)) = some (.int .u64 ((leN (l.drop k) : Nat) : Int)) := by
        rw [sBin_or, or_u64 s l[k] (by omega) (by omega), hs, or_low a l[k] hlt, List.drop_eq_getElem_cons hi, leN, ← ha]
      have e4 : IntKind.i64.wrap ((k : Int) - 1) = (k : Int) - 1 := w64 _ (by omega)
      have e5 : ((k : Int) + 1 - 1) = k := by omega
      rw [hx] at t0
      simp [L46_1, t0, t3, t4, e5, hi', hld, e1, e2, e3, e4]
      exact ⟨k, Nat.lt_succ_self k, by omega, by simp [t0, hx], by simp, by simp, rfl⟩
theorem sub_bs {H : Heap} {b off n c : Nat} {l : List Nat} (h : ∀ i (h : i < l.length), H.load ⟨b, off + i, none⟩ = some (.int .u8 ((l[i] : Nat) : Int))) (lo hi : Nat) (h1 : lo ≤ hi) (h2 : hi ≤ l.length) (c' : Nat) :
    Bs H (.slice (some ⟨b, off + lo, none⟩) (hi - lo) c') ((l.take hi).drop lo) := by
  have hlen : ((l.take hi).drop lo).length = hi - lo := by simp; omega
  refine .inr ⟨b, off + lo, c', by rw [hlen], fun i hi' => ?_⟩
  rw [hlen] at hi'
  rw [show off + lo + i = off + (lo + i) by omega, h (lo + i) (by omega)]
  simp
/-- A part of bytes that may be read may be read. -/
theorem Bs.part {H : Heap} {x : Value} {l : List Nat} (h : Bs H x l) (lo hi : Nat) (h1 : lo ≤ hi) (h2 : hi ≤ l.length) (h0 : 0 < l.length) :
    (∃ a c, sSlice 1 x (some (.int .i64 (lo : Int))) (some (.int .i64 (hi : Int))) none = some (.slice (some a) (hi - lo) c) ∧ Bs H (.slice (some a) (hi - lo) c) ((l.take hi).drop lo)) ∧
    (∃ a c, sSlice 1 x none (some (.int .i64 (hi : Int))) none = some (.slice (some a) hi c) ∧ Bs H (.slice (some a) hi c) (l.take hi)) ∧
    (∃ a c, sSlice 1 x (some (.int .i64 (lo : Int))) none none = some (.slice (some a) (l.length - lo) c) ∧ Bs H (.slice (some a) (l.length - lo) c) (l.drop lo)) := by
  rcases h with ⟨rfl, rfl⟩ | ⟨b, off, c, rfl, h⟩
  · simp at h0
  · have hlo : lo ≤ l.length := by omega
    refine ⟨⟨⟨b, off + lo, none⟩, (if lo = 0 then (if c = 1 then (if hi = l.length then 1 else 2) else c) else 2), ?_, sub_bs (n := 0) (c := 0) h lo hi h1 h2 _⟩,
      ⟨⟨b, off, none⟩, (if c = 1 then (if hi = l.length then 1 else 2) else c), ?_, ?_⟩, ⟨⟨b, off + lo, none⟩, (if lo = 0 then c else 2), ?_, ?_⟩⟩
    · simp [sSlice, bnd, h1, h2, add_own]
    · simp [sSlice, bnd, h2, add_own]
    · simpa using sub_bs (n := 0) (c := 0) h 0 hi (by omega) h2 (if c = 1 then (if hi = l.length then 1 else 2) else c)
    · simp [sSlice, bnd, hlo, add_own]
      by_cases hz : lo = 0
      · by_cases hc : c = 1 <;> simp [hz, hc]
      · simp [hz]
    · simpa using sub_bs (n := 0) (c := 0) h lo l.length (by omega) (Nat.le_refl _) (if lo = 0 then c else 2)
def openB (b : List Nat) : Nat × List Nat :=
  if b.length < 16 then (20, [])
  else if b.take 4 ≠ mk4 ∨ leN ((b.take 8).drop 4) ≠ b.length - 16 ∨ 1048576 < b.length - 16 then (21, [])
  else if leN ((b.take 16).drop 8) ≠ fnv (b.drop 16) then (22, [])
  else (0, b.drop 16)
theorem step8 (w : World) {xs ys : Array Value} {i a b : Nat} {is : List Nat} (hx : xs[i]? = some (.int .u8 (a : Int))) (hy : ys[i]? = some (.int .u8 (b : Int))) :
    (Op.eqItems 9999 5 1 xs ys (i :: is)).run Try.prog w = if a = b then (Op.eqItems 9999 5 1 xs ys is).run Try.prog w else .ok false w := by
  have hu5 : Try.prog.underlying 5 = some (.int .u8) := by kernel_rfl
  have he : Try.prog.plainKey 5 = true := by kernel_rfl
  simp only [Op.eqItems, Sem.run_bind, Nat.mul_one, run_part_plain w he hx, run_part_plain w he hy, Result.andThen_ok, run_equalIn_int w 9998 5 .u8 .u8 _ _ hu5]
  by_cases h : a = b
  · subst h; simp
  · have : ¬ (a : Int) = (b : Int) := by omega
    simp [h, this]
/-- Four bytes beside the mark. -/
theorem eq4 (l : List Nat) (hl : l.length = 4) (w : World) : (Op.equal 68 (.agg (bc l).toArray) (.agg (bc mk4).toArray)).run Try.prog w = .ok (decide (l = mk4)) w := by
  match l, hl with
  | [a, b, c, d], _ =>
    have hu : Try.prog.underlying 68 = some (.array 4 5) := by kernel_rfl
    have hc : Try.prog.cellsOf 5 = 1 := by kernel_rfl
    obtain ⟨i5, hi5⟩ : ∃ i, Try.prog.info? 5 = some i := ⟨_, rfl⟩
    have hd : Op.equal 68 (.agg (bc [a, b, c, d]).toArray) (.agg (bc mk4).toArray) = Op.equalIn (9999 + 1) 68 (.agg (bc [a, b, c, d]).toArray) (.agg (bc mk4).toArray) := rfl
    rw [hd, run_equalIn_array w 9999 _ _ hu hi5, hc]
    show (Op.eqItems 9999 5 1 (bc [a, b, c, d]).toArray (bc mk4).toArray [0, 1, 2, 3]).run Try.prog w = _
    rw [step8 (a := a) (b := 111) w rfl rfl, step8 (a := b) (b := 117) w rfl rfl, step8 (a := c) (b := 116) w rfl rfl, step8 (a := d) (b := 114) w rfl rfl]
    have he : (Op.eqItems 9999 5 1 (bc [a, b, c, d]).toArray (bc mk4).toArray []).run Try.prog w = .ok true w := rfl
    rw [he]
    simp only [mk4, List.cons.injEq, and_true]
    by_cases h1 : a = 111 <;> by_cases h2 : b = 117 <;> by_cases h3 : c = 116 <;> by_cases h4 : d = 114 <;> simp [h1, h2, h3, h4]
end Go.Proofs.Ytpcgganldmmpoaa
