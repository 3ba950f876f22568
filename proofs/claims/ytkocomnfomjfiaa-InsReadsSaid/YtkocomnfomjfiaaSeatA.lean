/-
  The writer, the document's numbers as bytes, bytes as texts (carried over from another chapter's proof).
-/
import Derived.Test.YtkocomnfomjfiaaOtZ
import Derived.Test.YtkocomnfomjfiaaSeatL
import Derived.Laws.Strings
namespace Go.Proofs.Ytkocomnfomjfiaa
open Go.Ot Go.RowKit
set_option linter.unusedSimpArgs false
set_option linter.unusedVariables false
theorem hm : Try.prog.follows .mixedOrders = true := by kernel_rfl
abbrev ptr (p : Nat) : Value := .pointer (some ⟨p, 0, none⟩)
abbrev sl (b n : Nat) : Value := .slice (some ⟨b, 0, none⟩) n 0
/-- Bytes as cells. -/
def bc (l : List Nat) : List Value := l.map fun (b : Nat) => .int .u8 (b : Int)
theorem bc_append (a b : List Nat) : bc (a ++ b) = bc a ++ bc b := by simp [bc]
theorem bc_len (a : List Nat) : (bc a).length = a.length := by simp [bc]
/-- A number's bytes: seven bits a byte, the lowest first. -/
def encU (n : Nat) : List Nat := if n < 128 then [n] else (n % 128 + 128) :: encU (n / 128)
termination_by n
decreasing_by omega
theorem encU_small {n : Nat} (h : n < 128) : encU n = [n] := by rw [encU]; simp [h]
theorem encU_big {n : Nat} (h : ¬ n < 128) : encU n = (n % 128 + 128) :: encU (n / 128) := by rw [encU]; simp [h]
theorem encU_len (k : Nat) : ∀ n, n < 128 ^ (k + 1) → (encU n).length ≤ k + 1 := by
  induction k with
  | zero => intro n h; rw [encU_small (by simpa using h)]; simp
  | succ k ih =>
    intro n h
    by_cases hn : n < 128
    · rw [encU_small hn]; simp
    · rw [encU_big hn]
      simp only [List.length_cons]
      have := ih (n / 128) (by rw [Nat.div_lt_iff_lt_mul (by omega)]; rw [Nat.pow_succ] at h; exact h)
      omega
set_option maxRecDepth 4000 in
theorem or128 (c m : Nat) (hc : c = m % 256) : c ||| 128 = m % 128 + 128 := by
  have h : c < 256 := by omega
  have e : m % 128 = c % 128 := by omega
  rw [e]
  revert h
  have key : ∀ c : Fin 256, c.val ||| 128 = c.val % 128 + 128 := by decide
  intro h
  exact key ⟨c, h⟩
abbrev WR (H : Heap) (p : Nat) (bs : List Nat) (x : Value) : Prop := Wr H 89 p 5 bs.length (bc bs) x
abbrev AF (H H' : Heap) (p : Nat) (x : Value) (bs : List Nat) (x' : Value) : Prop := Aft H H' 89 p 5 x bs.length (bc bs) x'
theorem WR.push {H : Heap} (hw : H.WF) {p : Nat} {bs : List Nat} {x : Value} (h : WR H p bs x) (b : Nat) (hl : bs.length < 140737488355328) :
    ∃ HA, sAppend (H.new 5 1 [.int .u8 (b : Int)]) 5 1 1 x (.slice (some ⟨H.next, 0, none⟩) 1 0) = some (sl (H.next + 1) (bs.length + 1), HA) ∧
      (∀ w, HA.store ⟨p, 0, none⟩ w = some (HA.put p [w])) ∧ AF H (HA.put p [sl (H.next + 1) (bs.length + 1)]) p x (bs ++ [b]) (sl (H.next + 1) (bs.length + 1)) := by
  obtain ⟨HA, h1, h2, h3⟩ := Wr.push hw h (.int .u8 (b : Int)) (bytes := 1) (c := 0) (by omega)
  refine ⟨HA, h1, h2, ?_⟩
  have e : (bs ++ [b]).length = bs.length + 1 := by simp
  unfold AF
  rw [e, bc_append]
  exact h3
def InvU (H : Heap) (p : Nat) (x : Value) (all : List Nat) (k : Nat) (t : Tm) (H1 : Heap) : Prop :=
  ∃ (w : List Nat) (m : Nat) (x' : Value), m = k ∧ m < 18446744073709551616 ∧ t 0 = ptr p ∧ t 1 = .int .u64 (m : Int) ∧ w ++ encU m = all ∧ AF H H1 p x w x'
theorem uint_T {H : Heap} (hw : H.WF) {p : Nat} {bs : List Nat} {x : Value} (h : WR H p bs x) {n : Nat} (hn : n < 18446744073709551616) (hl : bs.length ≤ 100000000000000) :
    ∃ v H', T Try.prog 32 [ptr p, .int .u64 (n : Int)] H v H' ∧ ∃ x', AF H H' p x (bs ++ encU n) x' := by
  have hle : (encU n).length ≤ 10 := encU_len 9 n (by omega)
  refine T_by hm light32 ?_
  simp [L32]
  refine loop_at (InvU H p x (bs ++ encU n)) n ?_ ?_
  · exact ⟨bs, n, x, rfl, hn, by simp, by simp, rfl, Aft.refl hw h⟩
  · rintro k t H1 ⟨w, m, x', rfl, hm64, t0, t1, hpre, ha⟩
    have hpl : w.length < 140737488355328 := by
      have := congrArg List.length hpre
      simp at this; omega
    have hld := ha.wr.load
    by_cases hm' : m < 128
    · obtain ⟨HA, hap, hst, ha2⟩ := WR.push ha.wf ha.wr m hpl
      have e1 : ¬ (128 : Int) ≤ (m : Int) := by omega
      have e2 : IntKind.u8.wrap (m : Int) = (m : Int) := wu8 _ (by omega)
      simp [L32_1, t0, t1, e1, e2, hld, zerosA, hap, hst]
      rw [encU_small hm'] at hpre
      rw [← hpre]
      exact ⟨_, ha.trans ha2⟩
    · obtain ⟨HA, hap, hst, ha2⟩ := WR.push ha.wf ha.wr (m % 128 + 128) hpl
      obtain ⟨c, hc⟩ : ∃ c, c = m % 256 := ⟨_, rfl⟩
      obtain ⟨d, hd⟩ : ∃ d, d = m % 128 + 128 := ⟨_, rfl⟩
      rw [← hd] at hap ha2
      have e1 : (128 : Int) ≤ (m : Int) := by omega
      have e2 : IntKind.u8.wrap (m : Int) = (c : Int) := by rw [wu8_mod, hc]
      have e3 : sBin .or (.int .u8 (c : Int)) (.int .u8 128) = some (.int .u8 (d : Int)) := by
        rw [sBin_or]
        have := or_u8 c 128 (by omega) (by omega)
        rw [or128 c m hc, ← hd] at this
        exact congrArg (fun z => some (Value.int .u8 z)) this
      obtain ⟨q, hq⟩ : ∃ q, q = m / 128 := ⟨_, rfl⟩
      have e4 : sBin .shr (.int .u64 (m : Int)) (.int .u64 7) = some (.int .u64 (q : Int)) := by
        rw [hq]; exact shr_nat .u64 .u64 m 7 (by decide)
      simp [L32_1, t0, t1, e1, e2, e3, e4, hld, zerosA, hap, hst]
      rw [encU_big hm', ← hd, ← hq] at hpre
      exact ⟨q, by omega, w ++ [d], q, _, rfl, by omega, by simp [t0], by simp, by simpa using hpre, ha.trans ha2⟩
/-- n as 2n, or, below 0, as -2n - 1. -/
def zz (n : Int) : Nat := if 0 ≤ n then (2 * n).toNat else (-2 * n - 1).toNat
theorem xor_ones (a : Nat) (ha : a < 18446744073709551616) : a ^^^ 18446744073709551615 = 18446744073709551615 - a := by
  have h : (BitVec.ofNat 64 a ^^^ BitVec.allOnes 64) = ~~~ BitVec.ofNat 64 a := BitVec.xor_allOnes
  have h2 := congrArg BitVec.toNat h
  rw [BitVec.toNat_xor, BitVec.toNat_not] at h2
  simp only [BitVec.toNat_ofNat, BitVec.toNat_allOnes] at h2
  rw [Nat.mod_eq_of_lt ha] at h2
  simpa using h2
theorem new_T {H : Heap} (hw : H.WF) : T Try.prog 31 [] H (ptr H.next) (H.new 89 1 [.slice none 0 0]) := by
  refine T_eq hm light31 ?_
  simp [L31]
theorem new_WR {H : Heap} (hw : H.WF) : WR (H.new 89 1 [.slice none 0 0]) H.next [] (.slice none 0 0) :=
  ⟨by simpa using hw.next_ge, by simp, by simpa [bc] using Own.nil _ _ _, by simp⟩
theorem int_T {H : Heap} (hw : H.WF) {p : Nat} {bs : List Nat} {x : Value} (h : WR H p bs x) {n : Int} (hn : -9223372036854775808 ≤ n ∧ n ≤ 9223372036854775807) (hl : bs.length ≤ 100000000000000) :
    ∃ v H', T Try.prog 33 [ptr p, .int .i64 n] H v H' ∧ ∃ x', AF H H' p x (bs ++ encU (zz n)) x' := by
  have hz : zz n < 18446744073709551616 := by unfold zz; split <;> omega
  obtain ⟨v, H', hT, x', ha⟩ := uint_T hw h hz hl
  refine T_by hm light33 ?_
  obtain ⟨u, hu⟩ : ∃ u : Nat, (u : Int) = IntKind.u64.wrap n := ⟨(IntKind.u64.wrap n).toNat, by
    rw [Int.toNat_of_nonneg]
    simp [IntKind.wrap, IntKind.bits, IntKind.signed]
    omega⟩
  have hu' : (u : Int) = n % 18446744073709551616 := by rw [hu]; simp [IntKind.wrap, IntKind.bits, IntKind.signed]
  obtain ⟨w, hw2⟩ : ∃ w, w = u * 2 ^ 1 % 18446744073709551616 := ⟨_, rfl⟩
  have e1 : sBin .shl (.int .u64 (u : Int)) (.int .u64 1) = some (.int .u64 (w : Int)) := by rw [hw2]; exact shl_u64 .u64 u 1 (by decide)
  by_cases h0 : 0 ≤ n
  · have e2 : sBin .shr (.int .i64 n) (.int .u64 63) = some (.int .i64 0) := by
      rw [sBin_shr _ _ _ _ (by decide)]
      rw [Int.fdiv_eq_ediv_of_nonneg _ (by decide)]
      have : n / 2 ^ min (63 : Int).toNat IntKind.i64.bits = 0 := by
        show n / 9223372036854775808 = 0
        omega
      rw [this]
    have e3 : IntKind.u64.wrap 0 = 0 := by decide
    have e4 : sBin .xor (.int .u64 (w : Int)) (.int .u64 0) = some (.int .u64 ((zz n : Nat) : Int)) := by
      rw [sBin_xor]
      have := xor_u64 w 0 (by omega) (by omega)
      rw [Nat.xor_zero] at this
      refine congrArg (fun z => some (Value.int .u64 z)) (this.trans ?_)
      simp only [zz, h0, if_true]
      omega
    simp [L33, ← hu, e1, e2, e3, e4]
    refine goT_of hT ?_
    simp
    exact ⟨x', ha⟩
  · have e2 : sBin .shr (.int .i64 n) (.int .u64 63) = some (.int .i64 (-1)) := by
      rw [sBin_shr _ _ _ _ (by decide)]
      rw [Int.fdiv_eq_ediv_of_nonneg _ (by decide)]
      have : n / 2 ^ min (63 : Int).toNat IntKind.i64.bits = -1 := by
        show n / 9223372036854775808 = -1
        omega
      rw [this]
    have e3 : IntKind.u64.wrap (-1) = 18446744073709551615 := by decide
    have e4 : sBin .xor (.int .u64 (w : Int)) (.int .u64 18446744073709551615) = some (.int .u64 ((zz n : Nat) : Int)) := by
      rw [sBin_xor]
      have := xor_u64 w 18446744073709551615 (by omega) (by omega)
      rw [xor_ones _ (by omega)] at this
      refine congrArg (fun z => some (Value.int .u64 z)) (this.trans ?_)
      simp only [zz, h0, if_false]
      omega
    simp [L33, ← hu, e1, e2, e3, e4]
    refine goT_of hT ?_
    simp
    exact ⟨x', ha⟩
/-- Bytes that may be read. -/
def Bs (H : Heap) (x : Value) (l : List Nat) : Prop :=
  (x = .slice none 0 0 ∧ l = []) ∨ ∃ b off c, x = .slice (some ⟨b, off, none⟩) l.length c ∧ ∀ i (h : i < l.length), H.load ⟨b, off + i, none⟩ = some (.int .u8 ((l[i] : Nat) : Int))
theorem loadN_all {H : Heap} {b off : Nat} : ∀ {l : List Nat} {i : Nat}, (∀ j (h : j < l.length), H.load ⟨b, off + i + j, none⟩ = some (.int .u8 ((l[j] : Nat) : Int))) → H.loadN ⟨b, off, none⟩ i l.length = some (bc l)
  | [], i, h => by simp [Heap.loadN, bc]
  | a :: l, i, h => by
    simp only [List.length_cons, Heap.loadN, add_own]
    have h0 := h 0 (by simp)
    simp only [Nat.add_zero, List.getElem_cons_zero] at h0
    rw [h0, Option.bind_some, loadN_all (l := l) (i := i + 1) (fun j hj => by
      have := h (j + 1) (by simp; omega)
      rw [show off + (i + 1) + j = off + i + (j + 1) by omega]
      simpa using this)]
    simp [bc]
theorem Bs.src {H : Heap} {x : Value} {l : List Nat} (h : Bs H x l) : srcCells H 1 x = some (l.length, bc l) := by
  rcases h with ⟨rfl, rfl⟩ | ⟨b, off, c, rfl, h⟩
  · simp [srcCells_nil, bc]
  · rw [srcCells_slice, Nat.mul_one, loadN_all (fun j hj => by simpa using h j hj)]; simp
theorem Bs.len {H : Heap} {x : Value} {l : List Nat} (h : Bs H x l) : ∃ a c, x = .slice a l.length c := by
  rcases h with ⟨rfl, rfl⟩ | ⟨b, off, c, rfl, h⟩ <;> exact ⟨_, _, rfl⟩
theorem own_bs {H : Heap} {n : Nat} {l : List Nat} {x : Value} (h : Own H 5 1 n (bc l) x) : Bs H x l := by
  have hl := h.1
  rw [bc_len, Nat.mul_one] at hl
  rcases h.2 with ⟨rfl, rfl⟩ | ⟨b, rest, rfl, hB, hk⟩
  · exact .inl ⟨rfl, List.length_eq_zero_iff.1 hl⟩
  · refine .inr ⟨b, 0, 0, by rw [hl], fun i hi => ?_⟩
    rw [load_at hB hk, Nat.zero_add, List.getElem?_append_left (by rw [bc_len]; exact hi)]
    simp [bc, hi]
/-- What is answered stands in new memory. -/
theorem bytes_T {H : Heap} (hw : H.WF) {p : Nat} {bs : List Nat} {x : Value} (h : WR H p bs x) (hl : bs.length ≤ 140737488355328) :
    ∃ v H', T Try.prog 34 [ptr p] H v H' ∧ Own H' 5 1 bs.length (bc bs) v ∧ (∀ b, blkOf v = some b → H.next ≤ b) ∧ Same H H' [] := by
  refine T_by hm light34 ?_
  have hld := h.load
  have hsrc := (own_bs h.own).src
  by_cases h0 : bs = []
  · subst h0
    have hap : sAppend H 5 1 1 (.slice none 0 0) x = some (.slice none 0 0, H) := append_none hsrc (.inr ⟨rfl, rfl⟩)
    simp [L34, hld, hap]
    exact ⟨by simpa [bc] using Own.nil _ _ _, Same.refl _ _⟩
  · have hne : bs.length ≠ 0 := fun h => h0 (List.length_eq_zero_iff.1 h)
    have hap := append_nil (ety := 5) (bytes := 1) hsrc hne (by omega)
    simp [L34, hld, hap]
    refine ⟨Own.mk (by simp [bc_len]) (by simpa using hw.next_ge) (by simp), ?_⟩
    intro b hb _
    have : b ≠ H.next := by omega
    simp [this]
theorem Bs.at {H : Heap} {x : Value} {l : List Nat} (h : Bs H x l) {i : Nat} (hi : i < l.length) : ∃ b off c, x = .slice (some ⟨b, off, none⟩) l.length c ∧ H.load ⟨b, off + i, none⟩ = some (.int .u8 ((l[i] : Nat) : Int)) := by
  rcases h with ⟨rfl, rfl⟩ | ⟨b, off, c, rfl, h⟩
  · simp at hi
  · exact ⟨b, off, c, rfl, h i hi⟩
abbrev OG (H H' : Heap) (x : Value) (l : List Nat) (x' : Value) : Prop := Og H H' 5 x l.length (bc l) x'
theorem OG.push {H : Heap} (hw : H.WF) {l : List Nat} {x : Value} (h : Own H 5 1 l.length (bc l) x) (b : Nat) (hl : l.length < 140737488355328) :
    ∃ HA, sAppend (H.new 5 1 [.int .u8 (b : Int)]) 5 1 1 x (.slice (some ⟨H.next, 0, none⟩) 1 0) = some (sl (H.next + 1) (l.length + 1), HA) ∧ OG H HA x (l ++ [b]) (sl (H.next + 1) (l.length + 1)) := by
  obtain ⟨HA, h1, h3⟩ := Og.push hw h (.int .u8 (b : Int)) (bytes := 1) (c := 0) (by omega)
  refine ⟨HA, h1, ?_⟩
  have e : (l ++ [b]).length = l.length + 1 := by simp
  unfold OG
  rw [e, bc_append]
  exact h3
theorem OG.pour {H : Heap} (hw : H.WF) {l l2 : List Nat} {x y : Value} (h : Own H 5 1 l.length (bc l) x) (hs : srcCells H 1 y = some (l2.length, bc l2)) (hl : l.length + l2.length ≤ 140737488355328) :
    ∃ a HA, sAppend H 5 1 1 x y = some (.slice a (l.length + l2.length) 0, HA) ∧ OG H HA x (l ++ l2) (.slice a (l.length + l2.length) 0) := by
  obtain ⟨a, HA, h1, h3⟩ := Og.pour hw h hs (bc_len l2) (bytes := 1) (by omega)
  refine ⟨a, HA, h1, ?_⟩
  unfold OG
  rw [List.length_append, bc_append]
  exact h3
theorem nil_own (H : Heap) : Own H 5 1 ([] : List Nat).length (bc []) (.slice none 0 0) := by simpa [bc] using Own.nil _ _ _
theorem load_keep {H H' : Heap} (hw : H.WF) (hb : H'.base = H.base) (hk : ∀ b, b < H.next → H'.blk b = H.blk b) {b off : Nat} {v : Value} (h : H.load ⟨b, off, none⟩ = some v) : H'.load ⟨b, off, none⟩ = some v := by
  by_cases hB : b < H.B
  · rw [load_ext hb hB]; exact h
  · have hB' : ¬ b < H'.B := by rw [B_eq hb]; exact hB
    cases hkb : H.blk b with
    | none => simp [Heap.load, hB, hkb] at h
    | some k =>
      rw [load_at hB hkb] at h
      rw [load_at hB' ((hk b (hw.lt hkb)).trans hkb)]
      exact h
theorem Bs.keep {H H' : Heap} (hw : H.WF) (hb : H'.base = H.base) (hk : ∀ b, b < H.next → H'.blk b = H.blk b) {x : Value} {l : List Nat} (h : Bs H x l) : Bs H' x l := by
  rcases h with h | ⟨b, off, c, rfl, h⟩
  · exact .inl h
  · exact .inr ⟨b, off, c, rfl, fun i hi => load_keep hw hb hk (h i hi)⟩
theorem same_all {H H1 : Heap} (h : Same H H1 []) : ∀ b, b < H.next → H1.blk b = H.blk b := fun b hb => h b hb (by simp)
/-- New rows: nothing old is turned. -/
theorem OG.olds {H H' : Heap} {l : List Nat} {y : Value} (h : OG H H' (.slice none 0 0) l y) : ∀ b, b < H.next → H'.blk b = H.blk b := fun b hb => h.same b hb (by simp)
/-- Something else is made beside: it stands as it stood. -/
theorem OG.beside {H H1 H2 : Heap} {x y : Value} {l : List Nat} (a : OG H H1 x l y) (hb : H2.base = H1.base) (hn : H1.next ≤ H2.next) (hw : H2.WF) (hk : ∀ b, b < H1.next → H2.blk b = H1.blk b) : OG H H2 x l y :=
  ⟨hb.trans a.base, Nat.le_trans a.next hn, hw, a.own.keep (B_eq hb) (fun b hx => hk b (a.own.lt a.wf hx)), fun b hlt hx => (hk b (Nat.lt_of_lt_of_le hlt a.next)).trans (a.same b hlt hx), a.old⟩
theorem byteNums_bc (l : List Nat) : byteNums (bc l) = some (l.map fun (b : Nat) => (b : Int)) := by
  induction l with
  | nil => rfl
  | cons a l ih => simp only [bc, List.map_cons] at ih ⊢; simp [byteNums, ih]
def strB (l : List Nat) : ByteArray := strOfNums (l.map fun (b : Nat) => (b : Int))
theorem toStr_bs {H : Heap} {x : Value} {l : List Nat} (h : Bs H x l) : sToStr H x = some (.string (strB l)) := by
  rcases h with ⟨rfl, rfl⟩ | ⟨b, off, c, rfl, h⟩
  · rfl
  · simp only [sToStr]
    rw [loadN_all (fun j hj => by simpa using h j hj), Option.bind_some, byteNums_bc]
    rfl
theorem strB_toList (l : List Nat) : (strB l).toList = l.map UInt8.ofNat := by
  rw [ByteArray.toList_eq]
  simp [strB, strOfNums, List.map_map, Function.comp_def]
theorem strB_inj {a b : List Nat} (ha : ∀ x ∈ a, x < 256) (hb : ∀ x ∈ b, x < 256) (h : (strB a).toList = (strB b).toList) : a = b := by
  rw [strB_toList, strB_toList] at h
  have h2 := congrArg (List.map UInt8.toNat) h
  rw [List.map_map, List.map_map] at h2
  have key : ∀ l : List Nat, (∀ x ∈ l, x < 256) → l.map (UInt8.toNat ∘ UInt8.ofNat) = l := by
    intro l hl
    conv => rhs; rw [← List.map_id l]
    refine List.map_congr_left fun x hx => ?_
    simp only [Function.comp_apply, UInt8.toNat_ofNat', id_eq]
    exact Nat.mod_eq_of_lt (hl x hx)
  rwa [key a ha, key b hb] at h2
theorem eql_str {a b : List Nat} (ha : ∀ x ∈ a, x < 256) (hb : ∀ x ∈ b, x < 256) : sBin .eql (.string (strB a)) (.string (strB b)) = some (.bool (decide (a = b))) := by
  simp only [sBin, sBinS]
  congr 2
  by_cases h : a = b
  · subst h; simp
  · have : ¬ (strB a).toList = (strB b).toList := fun h2 => h (strB_inj ha hb h2)
    simp [h, this]
theorem neq_str {a b : List Nat} (ha : ∀ x ∈ a, x < 256) (hb : ∀ x ∈ b, x < 256) : sBin .neq (.string (strB a)) (.string (strB b)) = some (.bool (decide (a ≠ b))) := by
  simp only [sBin, sBinS]
  congr 2
  by_cases h : a = b
  · subst h; simp
  · have : ¬ (strB a).toList = (strB b).toList := fun h2 => h (strB_inj ha hb h2)
    simp [h, this]
theorem OG.same0 {H : Heap} (hw : H.WF) : OG H H (.slice none 0 0) [] (.slice none 0 0) := Og.refl hw (nil_own H)
/-- A byte is turned. -/
theorem OG.set {H H1 : Heap} {x y : Value} {l : List Nat} (a : OG H H1 x l y) {i : Nat} (hi : i < l.length) (v : Nat) :
    ∃ b H2, y = sl b l.length ∧ H1.load ⟨b, i, none⟩ = some (.int .u8 ((l[i] : Nat) : Int)) ∧ H1.store ⟨b, i, none⟩ (.int .u8 (v : Int)) = some H2 ∧ OG H H2 x (l.set i v) y := by
  rcases a.own.2 with ⟨_, h0⟩ | ⟨b, rest, hy, hB, hk⟩
  · omega
  · refine ⟨b, H1.put b (bc (l.set i v) ++ rest), hy, ?_, ?_, ?_⟩
    · rw [load_at hB hk, List.getElem?_append_left (by rw [bc_len]; exact hi)]
      simp [bc, hi]
    · rw [store_own hB hk, if_pos (by rw [List.length_append, bc_len]; omega), List.set_append_left _ _ (by rw [bc_len]; exact hi)]
      simp [bc, List.map_set]
    · have hb := a.old b (by rw [hy]; rfl)
      refine ⟨a.base, a.next, WF_put a.wf _ _, ⟨by simp [bc_len], .inr ⟨b, rest, by simpa using hy, by simpa using hB, by simp [hk]⟩⟩, ?_, a.old⟩
      intro c hc hx
      have m1 : c ≠ b := by
        intro e
        subst e
        rcases hb with h | h
        · exact hx h
        · omega
      simp [m1]
      exact a.same c hc hx
def InvRU (H : Heap) (all : List Nat) (k : Nat) (t : Tm) (H1 : Heap) : Prop :=
  ∃ (w : List Nat) (m : Nat) (y : Value), m = k ∧ m < 18446744073709551616 ∧ t 0 = .int .u64 (m : Int) ∧ t 3 = y ∧ w ++ encU m = all ∧ OG H H1 (.slice none 0 0) w y
theorem uintR_T {H : Heap} (hw : H.WF) {n : Nat} (hn : n < 18446744073709551616) : ∃ v H', T Try.prog 35 [.int .u64 (n : Int)] H v H' ∧ OG H H' (.slice none 0 0) (encU n) v := by
  have hle : (encU n).length ≤ 10 := encU_len 9 n (by omega)
  refine T_by hm light35 ?_
  simp [L35]
  refine loop_at (InvRU H (encU n)) n ?_ ?_
  · exact ⟨[], n, _, rfl, hn, by simp, by simp, rfl, OG.same0 hw⟩
  · rintro k t H1 ⟨w, m, y, rfl, hm64, t0, t3, hpre, a⟩
    have hpl : w.length < 140737488355328 := by
      have := congrArg List.length hpre
      simp at this; omega
    obtain ⟨c, hc⟩ : ∃ c, c = m % 128 := ⟨_, rfl⟩
    obtain ⟨q, hq⟩ : ∃ q, q = m / 128 := ⟨_, rfl⟩
    have e1 : sBin .rem (.int .u64 (m : Int)) (.int .u64 128) = some (.int .u64 (c : Int)) := by rw [hc]; exact rem_nat .u64 m 128 (by decide)
    have e2 : IntKind.u8.wrap (c : Int) = (c : Int) := wu8 _ (by omega)
    have e3 : sBin .quo (.int .u64 (m : Int)) (.int .u64 128) = some (.int .u64 (q : Int)) := by rw [hq]; exact quo_u64 m 128 (by decide) hm64
    obtain ⟨HA, hap, a2⟩ := OG.push a.wf a.own c hpl
    obtain ⟨z, hz⟩ : ∃ z, z = H1.next + 1 := ⟨_, rfl⟩
    rw [← hz] at hap a2
    have a3 := a.trans a2
    by_cases h0 : q = 0
    · simp [L35_1, t0, t3, e1, e2, e3, zerosA, hap, h0]
      have : encU m = [c] := by rw [encU_small (by omega), hc, Nat.mod_eq_of_lt (by omega)]
      rw [this] at hpre
      rw [← hpre]
      exact a3
    · have e4 : encU m = (c + 128) :: encU q := by rw [encU_big (by omega), hc, hq]
      obtain ⟨b, H2, hy, hld, hst, a4⟩ := OG.set a3 (i := w.length) (by simp) (c + 128)
      have hb : b = z := by simpa using hy.symm
      rw [show (w ++ [c]).length = w.length + 1 by simp] at hy
      subst hb
      simp only [List.getElem_append_right (Nat.le_refl w.length), Nat.sub_self, List.getElem_cons_zero] at hld
      obtain ⟨d, hd⟩ : ∃ d, d = c + 128 := ⟨_, rfl⟩
      have e5 : IntKind.u8.wrap ((c : Int) + 128) = (d : Int) := by rw [wu8 _ (by omega)]; omega
      have e6 : IntKind.i64.wrap (w.length : Int) = (w.length : Int) := w64 _ (by omega)
      rw [← hd] at hst a4
      simp [L35_1, t0, t3, e1, e2, e3, zerosA, hap, h0, e6, hld, e5, hst]
      refine ⟨by omega, q, by omega, w ++ [d], q, sl b (w.length + 1), rfl, by omega, by simp, by simp, ?_, ?_⟩
      · rw [← hpre, e4, ← hd]; simp
      · have : (w ++ [c]).set w.length d = w ++ [d] := by simp
        rw [this] at a4
        exact a4
theorem intR_T {H : Heap} (hw : H.WF) {n : Int} (hn : -9223372036854775808 ≤ n ∧ n ≤ 9223372036854775807) : ∃ v H', T Try.prog 36 [.int .i64 n] H v H' ∧ OG H H' (.slice none 0 0) (encU (zz n)) v := by
  have hz : zz n < 18446744073709551616 := by unfold zz; split <;> omega
  obtain ⟨v, H', T1, a⟩ := uintR_T hw hz
  obtain ⟨va, hva⟩ := a.own.len
  subst hva
  refine T_by hm light36 ?_
  by_cases h0 : 0 ≤ n
  · have e1 : IntKind.u64.wrap n = n := wu64 _ (by omega)
    have e2 : IntKind.u64.wrap (n * 2) = ((zz n : Nat) : Int) := by rw [wu64 _ (by omega)]; unfold zz; rw [if_pos h0]; omega
    simp [L36, h0, e1, e2]
    refine goT_of T1 ?_
    simp
    exact a
  · have e1 : IntKind.i64.wrap (n + 1) = n + 1 := w64 _ (by omega)
    have e2 : IntKind.i64.wrap (-(n + 1)) = -(n + 1) := w64 _ (by omega)
    have e3 : IntKind.u64.wrap (-(n + 1)) = -(n + 1) := wu64 _ (by omega)
    have e4 : IntKind.u64.wrap (-(n + 1) * 2) = -(n + 1) * 2 := wu64 _ (by omega)
    have e5 : IntKind.u64.wrap (-(n + 1) * 2 + 1) = ((zz n : Nat) : Int) := by rw [wu64 _ (by omega)]; unfold zz; rw [if_neg h0]; omega
    obtain ⟨r, hr⟩ : ∃ r, r = n + 1 := ⟨_, rfl⟩
    rw [← hr] at e1 e2 e3 e4 e5
    obtain ⟨s, hs⟩ : ∃ s, s = -r := ⟨_, rfl⟩
    rw [← hs] at e2 e3 e4 e5
    obtain ⟨u, hu⟩ : ∃ u, u = s * 2 := ⟨_, rfl⟩
    rw [← hu] at e4 e5
    simp [L36, h0, ← hr, e1, ← hs, e2, e3, ← hu, e4, e5]
    refine goT_of T1 ?_
    simp
    exact a
theorem zz_lt {n : Int} (hn : -9223372036854775808 ≤ n ∧ n ≤ 9223372036854775807) : zz n < 18446744073709551616 := by unfold zz; split <;> omega
theorem OG.cat {H H1 H2 : Heap} {w e : List Nat} {y v : Value} (a : OG H H1 (.slice none 0 0) w y) (g : OG H1 H2 (.slice none 0 0) e v) (hl : w.length + e.length ≤ 140737488355328) :
    ∃ a' HA, sAppend H2 5 1 1 y v = some (.slice a' (w.length + e.length) 0, HA) ∧ OG H HA (.slice none 0 0) (w ++ e) (.slice a' (w.length + e.length) 0) := by
  have a2 := a.beside g.base g.next g.wf (OG.olds g)
  obtain ⟨a', HA, h1, h2⟩ := OG.pour a2.wf a2.own (own_bs g.own).src hl
  exact ⟨a', HA, h1, a2.trans h2⟩
theorem encU_b (n : Nat) : ∀ b ∈ encU n, b < 256 := by
  induction n using Nat.strongRecOn with
  | ind n ih =>
    intro b hb
    by_cases h : n < 128
    · rw [encU_small h] at hb; simp at hb; omega
    · rw [encU_big h] at hb
      rcases List.mem_cons.1 hb with rfl | hb
      · omega
      · exact ih (n / 128) (by omega) b hb
end Go.Proofs.Ytkocomnfomjfiaa
