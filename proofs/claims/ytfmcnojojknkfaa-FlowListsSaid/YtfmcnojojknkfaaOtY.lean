/-
  Part Y: a cell in which a row of its own stands that grows; numbers as bytes; more of numbers.
-/
import Derived.Test.YtfmcnojojknkfaaOtX
set_option linter.unusedVariables false
set_option linter.unusedSimpArgs false
namespace Go.Ot
open Go.RowKit

/-- At p stands a slice x that is a row of its own with these cells. -/
structure Wr (H : Heap) (tp p ety n : Nat) (cells : List Value) (x : Value) : Prop where
  hp : ¬ p < H.B
  bp : H.blk p = some ⟨tp, 1, [x]⟩
  own : Own H ety 1 n cells x
  px : blkOf x ≠ some p
theorem Wr.load {H : Heap} {tp p ety n : Nat} {cells : List Value} {x : Value} (h : Wr H tp p ety n cells x) : H.load ⟨p, 0, none⟩ = some x := by
  rw [load_at h.hp h.bp]; rfl
theorem Wr.keep {H H' : Heap} (hw : H.WF) {tp p ety n : Nat} {cells : List Value} {x : Value} (h : Wr H tp p ety n cells x) (hB : H'.B = H.B) (hk : ∀ b, b < H.next → H'.blk b = H.blk b) : Wr H' tp p ety n cells x :=
  ⟨by rw [hB]; exact h.hp, by rw [hk _ (hw.lt h.bp)]; exact h.bp, h.own.keep hB (fun b hb => hk b (h.own.lt hw hb)), h.px⟩
/-- Behind it: so stands it, and all but p and the old row is as it was. -/
structure Aft (H H' : Heap) (tp p ety : Nat) (x : Value) (n' : Nat) (cells' : List Value) (x' : Value) : Prop where
  base : H'.base = H.base
  next : H.next ≤ H'.next
  wf : H'.WF
  wr : Wr H' tp p ety n' cells' x'
  same : ∀ b, b < H.next → b ≠ p → blkOf x ≠ some b → H'.blk b = H.blk b
  old : ∀ b, blkOf x' = some b → blkOf x = some b ∨ H.next ≤ b
theorem Aft.refl {H : Heap} (hw : H.WF) {tp p ety n : Nat} {cells : List Value} {x : Value} (h : Wr H tp p ety n cells x) : Aft H H tp p ety x n cells x :=
  ⟨rfl, Nat.le_refl _, hw, h, fun _ _ _ _ => rfl, fun b hb => .inl hb⟩
theorem Aft.trans {H H1 H2 : Heap} {tp p ety n1 n2 : Nat} {c1 c2 : List Value} {x x1 x2 : Value} (h : Aft H H1 tp p ety x n1 c1 x1) (h' : Aft H1 H2 tp p ety x1 n2 c2 x2) : Aft H H2 tp p ety x n2 c2 x2 :=
  ⟨h'.base.trans h.base, Nat.le_trans h.next h'.next, h'.wf, h'.wr,
   fun b hb hp hx => (h'.same b (Nat.lt_of_lt_of_le hb h.next) hp (fun h1 => by
      rcases h.old b h1 with h2 | h2
      · exact hx h2
      · omega)).trans (h.same b hb hp hx),
   fun b hb => by
      rcases h'.old b hb with h1 | h1
      · exact h.old b h1
      · exact .inr (Nat.le_trans h.next h1)⟩
/-- One more, laid ahead in a row of one. -/
theorem Wr.push {H : Heap} (hw : H.WF) {tp p ety n : Nat} {cells : List Value} {x : Value} (h : Wr H tp p ety n cells x) (v : Value) {bytes c : Nat} (hb : (n + 1) * bytes ≤ 140737488355328) :
    ∃ HA, sAppend (H.new ety 1 [v]) ety 1 bytes x (.slice (some ⟨H.next, 0, none⟩) 1 c) = some (.slice (some ⟨H.next + 1, 0, none⟩) (n + 1) 0, HA) ∧
      (∀ w, HA.store ⟨p, 0, none⟩ w = some (HA.put p [w])) ∧ Aft H (HA.put p [.slice (some ⟨H.next + 1, 0, none⟩) (n + 1) 0]) tp p ety x (n + 1) (cells ++ [v]) (.slice (some ⟨H.next + 1, 0, none⟩) (n + 1) 0) := by
  have hpn := hw.lt h.bp
  have hnB := hw.next_ge
  have o2 : Own (H.new ety 1 [v]) ety 1 n cells x := h.own.keep rfl (fun b hb => by
    have := h.own.lt hw hb
    have : b ≠ H.next := by omega
    simp [this])
  have hap := append_any (bytes := bytes) o2 (src_one (H := H.new ety 1 [v]) (c := c) (by simpa using hnB) (by simp; exact ⟨rfl, rfl⟩)) (by omega) hb
  have p1 : p ≠ H.next := by omega
  have p2 : p ≠ H.next + 1 := by omega
  have p3 : H.next ≠ p := by omega
  refine ⟨_, hap, ?_, ⟨by simp, by simp; omega, WF_put (WF_new (WF_drop (WF_new hw _ _ _) _) _ _ _) _ _, ⟨by simpa using h.hp, ?_, ?_, ?_⟩, ?_, ?_⟩⟩
  · intro w
    have hk : (((H.new ety 1 [v]).drop x).new ety 1 (cells ++ [v])).blk p = some ⟨tp, 1, [x]⟩ := by simp [p1, p2, blk_drop, h.bp, h.px]
    rw [store_own (by simpa using h.hp) hk]
    simp
  · simp [p1, p2, blk_drop, h.bp, h.px]
  · refine Own.mk (by simp [h.own.1]) (by simp; omega) ?_
    simp [p2.symm]
  · simp; omega
  · intro b hb hp hx
    have m1 : b ≠ H.next := by omega
    have m2 : b ≠ H.next + 1 := by omega
    simp [hp, m1, m2, blk_drop, hx]
  · intro b hb
    simp at hb; subst hb
    exact .inr (by omega)
/-- So many more, out of another row or a text. -/
theorem Wr.pour {H : Heap} (hw : H.WF) {tp p ety n m : Nat} {cells xs : List Value} {x y : Value} (h : Wr H tp p ety n cells x) (hs : srcCells H 1 y = some (m, xs)) (hm : xs.length = m) {bytes : Nat} (hb : (n + m) * bytes ≤ 140737488355328) :
    ∃ x' HA, sAppend H ety 1 bytes x y = some (x', HA) ∧ (∃ a, x' = .slice a (n + m) 0) ∧ (∀ w, HA.store ⟨p, 0, none⟩ w = some (HA.put p [w])) ∧ Aft H (HA.put p [x']) tp p ety x (n + m) (cells ++ xs) x' := by
  have hpn := hw.lt h.bp
  have hnB := hw.next_ge
  by_cases h0 : m = 0
  · subst h0
    have hx0 : xs = [] := List.length_eq_zero_iff.1 hm
    subst hx0
    obtain ⟨a, hxa⟩ := h.own.len
    refine ⟨x, H, ?_, ⟨a, by simpa using hxa⟩, ?_, ?_⟩
    · rcases h.own.2 with ⟨rfl, rfl⟩ | ⟨b, rest, rfl, _⟩
      · exact append_none hs (.inr ⟨rfl, rfl⟩)
      · exact append_none hs (.inl rfl)
    · intro w
      rw [store_own h.hp h.bp]; simp
    · have e : H.put p [x] = H := put_self h.bp
      rw [e, List.append_nil]
      exact Aft.refl hw h
  · have hap := append_any (bytes := bytes) h.own hs h0 hb
    have p1 : p ≠ H.next := by omega
    refine ⟨_, _, hap, ⟨_, rfl⟩, ?_, ⟨by simp, by simp, WF_put (WF_new (WF_drop hw _) _ _ _) _ _, ⟨by simpa using h.hp, ?_, ?_, ?_⟩, ?_, ?_⟩⟩
    · intro w
      have hk : ((H.drop x).new ety 1 (cells ++ xs)).blk p = some ⟨tp, 1, [x]⟩ := by simp [p1, blk_drop, h.bp, h.px]
      rw [store_own (by simpa using h.hp) hk]
      simp
    · simp [p1, blk_drop, h.bp, h.px]
    · refine Own.mk (by simp [h.own.1, hm]) (by simpa using hnB) ?_
      simp [p1.symm]
    · simp; omega
    · intro b hb hp hx
      have m1 : b ≠ H.next := by omega
      simp [hp, m1, blk_drop, hx]
    · intro b hb
      simp at hb; subst hb
      exact .inr (Nat.le_refl _)
/-- Behind it: so stands the row of its own, and all but the old one is as it was. -/
structure Og (H H' : Heap) (ety : Nat) (x : Value) (n' : Nat) (cells' : List Value) (x' : Value) : Prop where
  base : H'.base = H.base
  next : H.next ≤ H'.next
  wf : H'.WF
  own : Own H' ety 1 n' cells' x'
  same : ∀ b, b < H.next → blkOf x ≠ some b → H'.blk b = H.blk b
  old : ∀ b, blkOf x' = some b → blkOf x = some b ∨ H.next ≤ b
theorem Og.refl {H : Heap} (hw : H.WF) {ety n : Nat} {cells : List Value} {x : Value} (h : Own H ety 1 n cells x) : Og H H ety x n cells x :=
  ⟨rfl, Nat.le_refl _, hw, h, fun _ _ _ => rfl, fun b hb => .inl hb⟩
theorem Og.trans {H H1 H2 : Heap} {ety n1 n2 : Nat} {c1 c2 : List Value} {x x1 x2 : Value} (h : Og H H1 ety x n1 c1 x1) (h' : Og H1 H2 ety x1 n2 c2 x2) : Og H H2 ety x n2 c2 x2 :=
  ⟨h'.base.trans h.base, Nat.le_trans h.next h'.next, h'.wf, h'.own,
   fun b hb hx => (h'.same b (Nat.lt_of_lt_of_le hb h.next) (fun h1 => by
      rcases h.old b h1 with h2 | h2
      · exact hx h2
      · omega)).trans (h.same b hb hx),
   fun b hb => by
      rcases h'.old b hb with h1 | h1
      · exact h.old b h1
      · exact .inr (Nat.le_trans h.next h1)⟩
theorem Og.push {H : Heap} (hw : H.WF) {ety n : Nat} {cells : List Value} {x : Value} (h : Own H ety 1 n cells x) (v : Value) {bytes c : Nat} (hb : (n + 1) * bytes ≤ 140737488355328) :
    ∃ HA, sAppend (H.new ety 1 [v]) ety 1 bytes x (.slice (some ⟨H.next, 0, none⟩) 1 c) = some (.slice (some ⟨H.next + 1, 0, none⟩) (n + 1) 0, HA) ∧
      Og H HA ety x (n + 1) (cells ++ [v]) (.slice (some ⟨H.next + 1, 0, none⟩) (n + 1) 0) := by
  have hnB := hw.next_ge
  have o2 : Own (H.new ety 1 [v]) ety 1 n cells x := h.keep rfl (fun b hb => by
    have := h.lt hw hb
    have : b ≠ H.next := by omega
    simp [this])
  have hap := append_any (bytes := bytes) o2 (src_one (H := H.new ety 1 [v]) (c := c) (by simpa using hnB) (by simp; exact ⟨rfl, rfl⟩)) (by omega) hb
  refine ⟨_, hap, ⟨by simp, by simp; omega, WF_new (WF_drop (WF_new hw _ _ _) _) _ _ _, Own.mk (by simp [h.1]) (by simp; omega) (by simp), ?_, ?_⟩⟩
  · intro b hb hx
    have m1 : b ≠ H.next := by omega
    have m2 : b ≠ H.next + 1 := by omega
    simp [m1, m2, blk_drop, hx]
  · intro b hb
    simp at hb; subst hb
    exact .inr (by omega)
theorem Og.pour {H : Heap} (hw : H.WF) {ety n m : Nat} {cells xs : List Value} {x y : Value} (h : Own H ety 1 n cells x) (hs : srcCells H 1 y = some (m, xs)) (hm : xs.length = m) {bytes : Nat} (hb : (n + m) * bytes ≤ 140737488355328) :
    ∃ a HA, sAppend H ety 1 bytes x y = some (.slice a (n + m) 0, HA) ∧ Og H HA ety x (n + m) (cells ++ xs) (.slice a (n + m) 0) := by
  have hnB := hw.next_ge
  by_cases h0 : m = 0
  · subst h0
    have hx0 : xs = [] := List.length_eq_zero_iff.1 hm
    subst hx0
    obtain ⟨a, hxa⟩ := h.len
    subst hxa
    refine ⟨a, H, ?_, by simpa using Og.refl hw h⟩
    rcases h.2 with ⟨h1, rfl⟩ | ⟨b, rest, h1, _⟩
    · cases h1; exact append_none hs (.inr ⟨rfl, rfl⟩)
    · cases h1; exact append_none hs (.inl rfl)
  · have hap := append_any (bytes := bytes) h hs h0 hb
    refine ⟨_, _, hap, ⟨by simp, by simp, WF_new (WF_drop hw _) _ _ _, Own.mk (by simp [h.1, hm]) (by simpa using hnB) (by simp), ?_, ?_⟩⟩
    · intro b hb hx
      have m1 : b ≠ H.next := by omega
      simp [m1, blk_drop, hx]
    · intro b hb
      simp at hb; subst hb
      exact .inr (Nat.le_refl _)
/-! ### numbers -/
theorem wu8 (n : Int) (h : 0 ≤ n ∧ n ≤ 255) : IntKind.u8.wrap n = n := IntWalk.u8_in n h
theorem wu64 (n : Int) (h : 0 ≤ n ∧ n ≤ 18446744073709551615) : IntKind.u64.wrap n = n := IntWalk.u64_in n h
theorem wu8_mod (n : Nat) : IntKind.u8.wrap (n : Int) = ((n % 256 : Nat) : Int) := by simp [IntKind.wrap, IntKind.bits, IntKind.signed]
theorem wu64_mod (n : Nat) : IntKind.u64.wrap (n : Int) = ((n % 18446744073709551616 : Nat) : Int) := by simp [IntKind.wrap, IntKind.bits, IntKind.signed]
theorem sBin_shr (k k' : IntKind) (a b : Int) (h : 0 ≤ b) : sBin .shr (.int k a) (.int k' b) = some (.int k (a.fdiv (2 ^ min b.toNat k.bits))) := by
  have : ¬ b < 0 := by omega
  simp [sBin, this]
theorem sBin_shl (k k' : IntKind) (a b : Int) (h : 0 ≤ b) : sBin .shl (.int k a) (.int k' b) = some (.int k (k.wrap (a * 2 ^ min b.toNat k.bits))) := by
  have : ¬ b < 0 := by omega
  simp [sBin, this]
theorem shr_nat (k k' : IntKind) (a s : Nat) (hs : s < k.bits) : sBin .shr (.int k (a : Int)) (.int k' (s : Int)) = some (.int k ((a / 2 ^ s : Nat) : Int)) := by
  rw [sBin_shr _ _ _ _ (by omega)]
  have e : min (s : Int).toNat k.bits = s := by simp; omega
  rw [e, Int.fdiv_eq_ediv_of_nonneg _ (Int.pow_nonneg (by decide))]
  norm_cast
theorem shl_u64 (k' : IntKind) (a s : Nat) (hs : s < 64) : sBin .shl (.int .u64 (a : Int)) (.int k' (s : Int)) = some (.int .u64 ((a * 2 ^ s % 18446744073709551616 : Nat) : Int)) := by
  rw [sBin_shl _ _ _ _ (by omega)]
  have e : min (s : Int).toNat IntKind.u64.bits = s := by simp [IntKind.bits]; omega
  rw [e, show (a : Int) * 2 ^ s = ((a * 2 ^ s : Nat) : Int) by push_cast; rfl, wu64_mod]
theorem rem_nat (k : IntKind) (a b : Nat) (hb : b ≠ 0) : sBin .rem (.int k (a : Int)) (.int k (b : Int)) = some (.int k ((a % b : Nat) : Int)) := by
  rw [sBin_rem, if_neg (by omega), Int.tmod_eq_emod_of_nonneg (by omega)]; rfl
theorem quo_u64 (a b : Nat) (hb : b ≠ 0) (ha : a < 18446744073709551616) : sBin .quo (.int .u64 (a : Int)) (.int .u64 (b : Int)) = some (.int .u64 ((a / b : Nat) : Int)) := by
  have h : a / b ≤ a := Nat.div_le_self _ _
  rw [sBin_quo, if_neg (by omega), Int.tdiv_eq_ediv_of_nonneg (by omega), show (a : Int) / (b : Int) = ((a / b : Nat) : Int) from rfl]
  generalize a / b = q at h ⊢
  rw [wu64 _ (by omega)]
theorem sBin_or (k : IntKind) (a b : Int) : sBin .or (.int k a) (.int k b) = some (.int k (k.wrap (BitVec.ofInt k.bits a ||| BitVec.ofInt k.bits b).toNat)) := by simp [sBin, iBin]
theorem sBin_and (k : IntKind) (a b : Int) : sBin .and (.int k a) (.int k b) = some (.int k (k.wrap (BitVec.ofInt k.bits a &&& BitVec.ofInt k.bits b).toNat)) := by simp [sBin, iBin]
theorem sBin_xor (k : IntKind) (a b : Int) : sBin .xor (.int k a) (.int k b) = some (.int k (k.wrap (BitVec.ofInt k.bits a ^^^ BitVec.ofInt k.bits b).toNat)) := by simp [sBin, iBin]
theorem bits_u8 (a : Nat) (ha : a < 256) : (BitVec.ofInt IntKind.u8.bits (a : Int)).toNat = a := by
  simp only [IntKind.bits, BitVec.ofInt_natCast, BitVec.toNat_ofNat]
  exact Nat.mod_eq_of_lt ha
theorem or_u8 (a b : Nat) (ha : a < 256) (hb : b < 256) : IntKind.u8.wrap ((BitVec.ofInt IntKind.u8.bits (a : Int) ||| BitVec.ofInt IntKind.u8.bits (b : Int)).toNat : Int) = ((a ||| b : Nat) : Int) := by
  rw [BitVec.toNat_or, bits_u8 a ha, bits_u8 b hb, wu8_mod, Nat.mod_eq_of_lt (Nat.or_lt_two_pow (n := 8) ha hb)]
theorem bits_u64 (a : Nat) (ha : a < 18446744073709551616) : (BitVec.ofInt IntKind.u64.bits (a : Int)).toNat = a := by
  simp only [IntKind.bits, BitVec.ofInt_natCast, BitVec.toNat_ofNat]
  exact Nat.mod_eq_of_lt ha
theorem or_u64 (a b : Nat) (ha : a < 18446744073709551616) (hb : b < 18446744073709551616) : IntKind.u64.wrap ((BitVec.ofInt IntKind.u64.bits (a : Int) ||| BitVec.ofInt IntKind.u64.bits (b : Int)).toNat : Int) = ((a ||| b : Nat) : Int) := by
  rw [BitVec.toNat_or, bits_u64 a ha, bits_u64 b hb, wu64_mod, Nat.mod_eq_of_lt (Nat.or_lt_two_pow (n := 64) ha hb)]
theorem xor_u64 (a b : Nat) (ha : a < 18446744073709551616) (hb : b < 18446744073709551616) : IntKind.u64.wrap ((BitVec.ofInt IntKind.u64.bits (a : Int) ^^^ BitVec.ofInt IntKind.u64.bits (b : Int)).toNat : Int) = ((a ^^^ b : Nat) : Int) := by
  rw [BitVec.toNat_xor, bits_u64 a ha, bits_u64 b hb, wu64_mod, Nat.mod_eq_of_lt (Nat.xor_lt_two_pow (n := 64) ha hb)]
end Go.Ot
