/-
  The writer, the document's numbers as bytes, bytes as texts (carried over from another chapter's proof). Chapter 8: which instruction may be, by the program: part by part. Chapter 8: which instruction may be, by the program. Chapter 8: which instruction may be, by the document: part by part. Chapter 8: which instruction may be, by the document: it is the program's answer. Chapter 8: which text of instructions may be. Chapter 8: a text's bytes, by the program. Chapter 8: a text's bytes, by the program; the example of the chapter.
-/
import Derived.Test.YtnomffikflfilaaGreatSeatBA
import Derived.Test.YtnomffikflfilaaGreatOtZ
import Derived.Test.YtnomffikflfilaaGreatSeatLB
import Derived.Laws.Strings
namespace Go.Proofs.YtnomffikflfilaaGreat.E8
open I8
open Go.Ot Go.RowKit
set_option linter.unusedSimpArgs false
set_option linter.unusedVariables false
theorem hm : Tryz.prog.follows .mixedOrders = true := by kernel_rfl
abbrev ptr (p : Nat) : Value := .pointer (some ⟨p, 0, none⟩)
abbrev sl (b n : Nat) : Value := .slice (some ⟨b, 0, none⟩) n 0
def bc (l : List Nat) : List Value := l.map fun (b : Nat) => .int .u8 (b : Int)
theorem bc_append (a b : List Nat) : bc (a ++ b) = bc a ++ bc b := by simp [bc]
theorem bc_len (a : List Nat) : (bc a).length = a.length := by simp [bc]
def encU (n : Nat) : List Nat := if n < 128 then [n] else (n % 128 + 128) :: encU (n / 128)
termination_by n
decreasing_by omega
theorem encU_small {n : Nat} (h : n < 128) : encU n = [n] := by rw [encU]; simp [h]
theorem encU_big {n : Nat} (h : ¬ n < 128) : encU n = (n % 128 + 128) :: encU (n / 128) := by rw [encU]; simp [h]
theorem encU_len (k : Nat) : ∀ n, n < 128 ^ (k + 1) → (encU n).length ≤ k + 1 := by
  induction k with
  | zero => intro n h; rw [encU_small (by simpa using h)]; simp
  | succ k ih =>
    intro n h
    by_cases hn : n < 128
    · rw [encU_small hn]; simp
    · rw [encU_big hn]
      simp only [List.length_cons]
      have := ih (n / 128) (by rw [Nat.div_lt_iff_lt_mul (by omega)]; rw [Nat.pow_succ] at h; exact h)
      omega
set_option maxRecDepth 4000 in
theorem or128 (c m : Nat) (hc : c = m % 256) : c ||| 128 = m % 128 + 128 := by
  have h : c < 256 := by omega
  have e : m % 128 = c % 128 := by omega
  rw [e]
  revert h
  have key : ∀ c : Fin 256, c.val ||| 128 = c.val % 128 + 128 := by decide
  intro h
  exact key ⟨c, h⟩
abbrev WR (H : Heap) (p : Nat) (bs : List Nat) (x : Value) : Prop := Wr H 150 p 5 bs.length (bc bs) x
abbrev AF (H H' : Heap) (p : Nat) (x : Value) (bs : List Nat) (x' : Value) : Prop := Aft H H' 150 p 5 x bs.length (bc bs) x'
theorem WR.push {H : Heap} (hw : H.WF) {p : Nat} {bs : List Nat} {x : Value} (h : WR H p bs x) (b : Nat) (hl : bs.length < 140737488355328) :
    ∃ HA, sAppend (H.new 5 1 [.int .u8 (b : Int)]) 5 1 1 x (.slice (some ⟨H.next, 0, none⟩) 1 0) = some (sl (H.next + 1) (bs.length + 1), HA) ∧
      (∀ w, HA.store ⟨p, 0, none⟩ w = some (HA.put p [w])) ∧ AF H (HA.put p [sl (H.next + 1) (bs.length + 1)]) p x (bs ++ [b]) (sl (H.next + 1) (bs.length + 1)) := by
  obtain ⟨HA, h1, h2, h3⟩ := Wr.push hw h (.int .u8 (b : Int)) (bytes := 1) (c := 0) (by omega)
  refine ⟨HA, h1, h2, ?_⟩
  have e : (bs ++ [b]).length = bs.length + 1 := by simp
  unfold AF
  rw [e, bc_append]
  exact h3
def InvU (H : Heap) (p : Nat) (x : Value) (all : List Nat) (k : Nat) (t : Tm) (H1 : Heap) : Prop :=
  ∃ (w : List Nat) (m : Nat) (x' : Value), m = k ∧ m < 18446744073709551616 ∧ t 0 = ptr p ∧ t 1 = .int .u64 (m : Int) ∧ w ++ encU m = all ∧ AF H H1 p x w x'
theorem uint_T {H : Heap} (hw : H.WF) {p : Nat} {bs : List Nat} {x : Value} (h : WR H p bs x) {n : Nat} (hn : n < 18446744073709551616) (hl : bs.length ≤ 100000000000000) :
    ∃ v H', T Tryz.prog 33 [ptr p, .int .u64 (n : Int)] H v H' ∧ ∃ x', AF H H' p x (bs ++ encU n) x' := by
  have hle : (encU n).length ≤ 10 := encU_len 9 n (by omega)
  refine T_by hm light33 ?_
  simp [L33]
  refine loop_at (InvU H p x (bs ++ encU n)) n ?_ ?_
  · exact ⟨bs, n, x, rfl, hn, by simp, by simp, rfl, Aft.refl hw h⟩
  · rintro k t H1 ⟨w, m, x', rfl, hm64, t0, t1, hpre, ha⟩
    have hpl : w.length < 140737488355328 := by
      have := congrArg List.length hpre
      simp at this; omega
    have hld := ha.wr.load
    by_cases hm' : m < 128
    · obtain ⟨HA, hap, hst, ha2⟩ := WR.push ha.wf ha.wr m hpl
      have e1 : ¬ (128 : Int) ≤ (m : Int) := by omega
      have e2 : IntKind.u8.wrap (m : Int) = (m : Int) := wu8 _ (by omega)
      simp [L33_1, t0, t1, e1, e2, hld, zerosA, hap, hst]
      rw [encU_small hm'] at hpre
      rw [← hpre]
      exact ⟨_, ha.trans ha2⟩
    · obtain ⟨HA, hap, hst, ha2⟩ := WR.push ha.wf ha.wr (m % 128 + 128) hpl
      obtain ⟨c, hc⟩ : ∃ c, c = m % 256 := ⟨_, rfl⟩
      obtain ⟨d, hd⟩ : ∃ d, d = m % 128 + 128 := ⟨_, rfl⟩
      rw [← hd] at hap ha2
      have e1 : (128 : Int) ≤ (m : Int) := by omega
      have e2 : IntKind.u8.wrap (m : Int) = (c : Int) := by rw [wu8_mod, hc]
      have e3 : sBin .or (.int .u8 (c : Int)) (.int .u8 128) = some (.int .u8 (d : Int)) := by
        rw [sBin_or]
        have := or_u8 c 128 (by omega) (by omega)
        rw [or128 c m hc, ← hd] at this
        exact congrArg (fun z => some (Value.int .u8 z)) this
      obtain ⟨q, hq⟩ : ∃ q, q = m / 128 := ⟨_, rfl⟩
      have e4 : sBin .shr (.int .u64 (m : Int)) (.int .u64 7) = some (.int .u64 (q : Int)) := by
        rw [hq]; exact shr_nat .u64 .u64 m 7 (by decide)
      simp [L33_1, t0, t1, e1, e2, e3, e4, hld, zerosA, hap, hst]
      rw [encU_big hm', ← hd, ← hq] at hpre
      exact ⟨q, by omega, w ++ [d], q, _, rfl, by omega, by simp [t0], by simp, by simpa using hpre, ha.trans ha2⟩
def zz (n : Int) : Nat := if 0 ≤ n then (2 * n).toNat else (-2 * n - 1).toNat
theorem xor_ones (a : Nat) (ha : a < 18446744073709551616) : a ^^^ 18446744073709551615 = 18446744073709551615 - a := by
  have h : (BitVec.ofNat 64 a ^^^ BitVec.allOnes 64) = ~~~ BitVec.ofNat 64 a := BitVec.xor_allOnes
  have h2 := congrArg BitVec.toNat h
  rw [BitVec.toNat_xor, BitVec.toNat_not] at h2
  simp only [BitVec.toNat_ofNat, BitVec.toNat_allOnes] at h2
  rw [Nat.mod_eq_of_lt ha] at h2
  simpa using h2
theorem new_T {H : Heap} (hw : H.WF) : T Tryz.prog 32 [] H (ptr H.next) (H.new 150 1 [.slice none 0 0]) := by
  refine T_eq hm light32 ?_
  simp [L32]
theorem new_WR {H : Heap} (hw : H.WF) : WR (H.new 150 1 [.slice none 0 0]) H.next [] (.slice none 0 0) :=
  ⟨by simpa using hw.next_ge, by simp, by simpa [bc] using Own.nil _ _ _, by simp⟩
theorem int_T {H : Heap} (hw : H.WF) {p : Nat} {bs : List Nat} {x : Value} (h : WR H p bs x) {n : Int} (hn : -9223372036854775808 ≤ n ∧ n ≤ 9223372036854775807) (hl : bs.length ≤ 100000000000000) :
    ∃ v H', T Tryz.prog 72 [ptr p, .int .i64 n] H v H' ∧ ∃ x', AF H H' p x (bs ++ encU (zz n)) x' := by
  have hz : zz n < 18446744073709551616 := by unfold zz; split <;> omega
  obtain ⟨v, H', hT, x', ha⟩ := uint_T hw h hz hl
  refine T_by hm light72 ?_
  obtain ⟨u, hu⟩ : ∃ u : Nat, (u : Int) = IntKind.u64.wrap n := ⟨(IntKind.u64.wrap n).toNat, by
    rw [Int.toNat_of_nonneg]
    simp [IntKind.wrap, IntKind.bits, IntKind.signed]
    omega⟩
  have hu' : (u : Int) = n % 18446744073709551616 := by rw [hu]; simp [IntKind.wrap, IntKind.bits, IntKind.signed]
  obtain ⟨w, hw2⟩ : ∃ w, w = u * 2 ^ 1 % 18446744073709551616 := ⟨_, rfl⟩
  have e1 : sBin .shl (.int .u64 (u : Int)) (.int .u64 1) = some (.int .u64 (w : Int)) := by rw [hw2]; exact shl_u64 .u64 u 1 (by decide)
  by_cases h0 : 0 ≤ n
  · have e2 : sBin .shr (.int .i64 n) (.int .u64 63) = some (.int .i64 0) := by
      rw [sBin_shr _ _ _ _ (by decide)]
      rw [Int.fdiv_eq_ediv_of_nonneg _ (by decide)]
      have : n / 2 ^ min (63 : Int).toNat IntKind.i64.bits = 0 := by
        show n / 9223372036854775808 = 0
        omega
      rw [this]
    have e3 : IntKind.u64.wrap 0 = 0 := by decide
    have e4 : sBin .xor (.int .u64 (w : Int)) (.int .u64 0) = some (.int .u64 ((zz n : Nat) : Int)) := by
      rw [sBin_xor]
      have := xor_u64 w 0 (by omega) (by omega)
      rw [Nat.xor_zero] at this
      refine congrArg (fun z => some (Value.int .u64 z)) (this.trans ?_)
      simp only [zz, h0, if_true]
      omega
    simp [L72, ← hu, e1, e2, e3, e4]
    refine goT_of hT ?_
    simp
    exact ⟨x', ha⟩
  · have e2 : sBin .shr (.int .i64 n) (.int .u64 63) = some (.int .i64 (-1)) := by
      rw [sBin_shr _ _ _ _ (by decide)]
      rw [Int.fdiv_eq_ediv_of_nonneg _ (by decide)]
      have : n / 2 ^ min (63 : Int).toNat IntKind.i64.bits = -1 := by
        show n / 9223372036854775808 = -1
        omega
      rw [this]
    have e3 : IntKind.u64.wrap (-1) = 18446744073709551615 := by decide
    have e4 : sBin .xor (.int .u64 (w : Int)) (.int .u64 18446744073709551615) = some (.int .u64 ((zz n : Nat) : Int)) := by
      rw [sBin_xor]
      have := xor_u64 w 18446744073709551615 (by omega) (by omega)
      rw [xor_ones _ (by omega)] at this
      refine congrArg (fun z => some (Value.int .u64 z)) (this.trans ?_)
      simp only [zz, h0, if_false]
      omega
    simp [L72, ← hu, e1, e2, e3, e4]
    refine goT_of hT ?_
    simp
    exact ⟨x', ha⟩
def Bs (H : Heap) (x : Value) (l : List Nat) : Prop :=
  (x = .slice none 0 0 ∧ l = []) ∨ ∃ b off c, x = .slice (some ⟨b, off, none⟩) l.length c ∧ ∀ i (h : i < l.length), H.load ⟨b, off + i, none⟩ = some (.int .u8 ((l[i] : Nat) : Int))
theorem loadN_all {H : Heap} {b off : Nat} : ∀ {l : List Nat} {i : Nat}, (∀ j (h : j < l.length), H.load ⟨b, off + i + j, none⟩ = some (.int .u8 ((l[j] : Nat) : Int))) → H.loadN ⟨b, off, none⟩ i l.length = some (bc l)
  | [], i, h => by simp [Heap.loadN, bc]
  | a :: l, i, h => by
    simp only [List.length_cons, Heap.loadN, add_own]
    have h0 := h 0 (by simp)
    simp only [Nat.add_zero, List.getElem_cons_zero] at h0
    rw [h0, Option.bind_some, loadN_all (l := l) (i := i + 1) (fun j hj => by
      have := h (j + 1) (by simp; omega)
      rw [show off + (i + 1) + j = off + i + (j + 1) by omega]
      simpa using this)]
    simp [bc]
theorem Bs.src {H : Heap} {x : Value} {l : List Nat} (h : Bs H x l) : srcCells H 1 x = some (l.length, bc l) := by
  rcases h with ⟨rfl, rfl⟩ | ⟨b, off, c, rfl, h⟩
  · simp [srcCells_nil, bc]
  · rw [srcCells_slice, Nat.mul_one, loadN_all (fun j hj => by simpa using h j hj)]; simp
theorem Bs.len {H : Heap} {x : Value} {l : List Nat} (h : Bs H x l) : ∃ a c, x = .slice a l.length c := by
  rcases h with ⟨rfl, rfl⟩ | ⟨b, off, c, rfl, h⟩ <;> exact ⟨_, _, rfl⟩
theorem own_bs {H : Heap} {n : Nat} {l : List Nat} {x : Value} (h : Own H 5 1 n (bc l) x) : Bs H x l := by
  have hl := h.1
  rw [bc_len, Nat.mul_one] at hl
  rcases h.2 with ⟨rfl, rfl⟩ | ⟨b, rest, rfl, hB, hk⟩
  · exact .inl ⟨rfl, List.length_eq_zero_iff.1 hl⟩
  · refine .inr ⟨b, 0, 0, by rw [hl], fun i hi => ?_⟩
    rw [load_at hB hk, Nat.zero_add, List.getElem?_append_left (by rw [bc_len]; exact hi)]
    simp [bc, hi]
theorem bytes_T {H : Heap} (hw : H.WF) {p : Nat} {bs : List Nat} {x : Value} (h : WR H p bs x) (hl : bs.length ≤ 140737488355328) :
    ∃ v H', T Tryz.prog 38 [ptr p] H v H' ∧ Own H' 5 1 bs.length (bc bs) v ∧ (∀ b, blkOf v = some b → H.next ≤ b) ∧ Same H H' [] := by
  refine T_by hm light38 ?_
  have hld := h.load
  have hsrc := (own_bs h.own).src
  by_cases h0 : bs = []
  · subst h0
    have hap : sAppend H 5 1 1 (.slice none 0 0) x = some (.slice none 0 0, H) := append_none hsrc (.inr ⟨rfl, rfl⟩)
    simp [L38, hld, hap]
    exact ⟨by simpa [bc] using Own.nil _ _ _, Same.refl _ _⟩
  · have hne : bs.length ≠ 0 := fun h => h0 (List.length_eq_zero_iff.1 h)
    have hap := append_nil (ety := 5) (bytes := 1) hsrc hne (by omega)
    simp [L38, hld, hap]
    refine ⟨Own.mk (by simp [bc_len]) (by simpa using hw.next_ge) (by simp), ?_⟩
    intro b hb _
    have : b ≠ H.next := by omega
    simp [this]
theorem Bs.at {H : Heap} {x : Value} {l : List Nat} (h : Bs H x l) {i : Nat} (hi : i < l.length) : ∃ b off c, x = .slice (some ⟨b, off, none⟩) l.length c ∧ H.load ⟨b, off + i, none⟩ = some (.int .u8 ((l[i] : Nat) : Int)) := by
  rcases h with ⟨rfl, rfl⟩ | ⟨b, off, c, rfl, h⟩
  · simp at hi
  · exact ⟨b, off, c, rfl, h i hi⟩
abbrev OG (H H' : Heap) (x : Value) (l : List Nat) (x' : Value) : Prop := Og H H' 5 x l.length (bc l) x'
theorem OG.push {H : Heap} (hw : H.WF) {l : List Nat} {x : Value} (h : Own H 5 1 l.length (bc l) x) (b : Nat) (hl : l.length < 140737488355328) :
    ∃ HA, sAppend (H.new 5 1 [.int .u8 (b : Int)]) 5 1 1 x (.slice (some ⟨H.next, 0, none⟩) 1 0) = some (sl (H.next + 1) (l.length + 1), HA) ∧ OG H HA x (l ++ [b]) (sl (H.next + 1) (l.length + 1)) := by
  obtain ⟨HA, h1, h3⟩ := Og.push hw h (.int .u8 (b : Int)) (bytes := 1) (c := 0) (by omega)
  refine ⟨HA, h1, ?_⟩
  have e : (l ++ [b]).length = l.length + 1 := by simp
  unfold OG
  rw [e, bc_append]
  exact h3
theorem OG.pour {H : Heap} (hw : H.WF) {l l2 : List Nat} {x y : Value} (h : Own H 5 1 l.length (bc l) x) (hs : srcCells H 1 y = some (l2.length, bc l2)) (hl : l.length + l2.length ≤ 140737488355328) :
    ∃ a HA, sAppend H 5 1 1 x y = some (.slice a (l.length + l2.length) 0, HA) ∧ OG H HA x (l ++ l2) (.slice a (l.length + l2.length) 0) := by
  obtain ⟨a, HA, h1, h3⟩ := Og.pour hw h hs (bc_len l2) (bytes := 1) (by omega)
  refine ⟨a, HA, h1, ?_⟩
  unfold OG
  rw [List.length_append, bc_append]
  exact h3
theorem nil_own (H : Heap) : Own H 5 1 ([] : List Nat).length (bc []) (.slice none 0 0) := by simpa [bc] using Own.nil _ _ _
theorem load_keep {H H' : Heap} (hw : H.WF) (hb : H'.base = H.base) (hk : ∀ b, b < H.next → H'.blk b = H.blk b) {b off : Nat} {v : Value} (h : H.load ⟨b, off, none⟩ = some v) : H'.load ⟨b, off, none⟩ = some v := load_keepN hw hb hk h
theorem Bs.keep {H H' : Heap} (hw : H.WF) (hb : H'.base = H.base) (hk : ∀ b, b < H.next → H'.blk b = H.blk b) {x : Value} {l : List Nat} (h : Bs H x l) : Bs H' x l := by
  rcases h with h | ⟨b, off, c, rfl, h⟩
  · exact .inl h
  · exact .inr ⟨b, off, c, rfl, fun i hi => load_keep hw hb hk (h i hi)⟩
theorem same_all {H H1 : Heap} (h : Same H H1 []) : ∀ b, b < H.next → H1.blk b = H.blk b := fun b hb => h b hb (by simp)
theorem OG.olds {H H' : Heap} {l : List Nat} {y : Value} (h : OG H H' (.slice none 0 0) l y) : ∀ b, b < H.next → H'.blk b = H.blk b := fun b hb => h.same b hb (by simp)
theorem OG.beside {H H1 H2 : Heap} {x y : Value} {l : List Nat} (a : OG H H1 x l y) (hb : H2.base = H1.base) (hn : H1.next ≤ H2.next) (hw : H2.WF) (hk : ∀ b, b < H1.next → H2.blk b = H1.blk b) : OG H H2 x l y :=
  ⟨hb.trans a.base, Nat.le_trans a.next hn, hw, a.own.keep (B_eq hb) (fun b hx => hk b (a.own.lt a.wf hx)), fun b hlt hx => (hk b (Nat.lt_of_lt_of_le hlt a.next)).trans (a.same b hlt hx), a.old⟩
theorem byteNums_bc (l : List Nat) : byteNums (bc l) = some (l.map fun (b : Nat) => (b : Int)) := by
  induction l with
  | nil => rfl
  | cons a l ih => simp only [bc, List.map_cons] at ih ⊢; simp [byteNums, ih]
def strB (l : List Nat) : ByteArray := strOfNums (l.map fun (b : Nat) => (b : Int))
theorem toStr_bs {H : Heap} {x : Value} {l : List Nat} (h : Bs H x l) : sToStr H x = some (.string (strB l)) := by
  rcases h with ⟨rfl, rfl⟩ | ⟨b, off, c, rfl, h⟩
  · rfl
  · simp only [sToStr]
    rw [loadN_all (fun j hj => by simpa using h j hj), Option.bind_some, byteNums_bc]
    rfl
theorem strB_toList (l : List Nat) : (strB l).toList = l.map UInt8.ofNat := by
  rw [ByteArray.toList_eq]
  simp [strB, strOfNums, List.map_map, Function.comp_def]
theorem OG.same0 {H : Heap} (hw : H.WF) : OG H H (.slice none 0 0) [] (.slice none 0 0) := Og.refl hw (nil_own H)
theorem OG.set {H H1 : Heap} {x y : Value} {l : List Nat} (a : OG H H1 x l y) {i : Nat} (hi : i < l.length) (v : Nat) :
    ∃ b H2, y = sl b l.length ∧ H1.load ⟨b, i, none⟩ = some (.int .u8 ((l[i] : Nat) : Int)) ∧ H1.store ⟨b, i, none⟩ (.int .u8 (v : Int)) = some H2 ∧ OG H H2 x (l.set i v) y := by
  rcases a.own.2 with ⟨_, h0⟩ | ⟨b, rest, hy, hB, hk⟩
  · omega
  · refine ⟨b, H1.put b (bc (l.set i v) ++ rest), hy, ?_, ?_, ?_⟩
    · rw [load_at hB hk, List.getElem?_append_left (by rw [bc_len]; exact hi)]
      simp [bc, hi]
    · rw [store_own hB hk, if_pos (by rw [List.length_append, bc_len]; omega), List.set_append_left _ _ (by rw [bc_len]; exact hi)]
      simp [bc, List.map_set]
    · have hb := a.old b (by rw [hy]; rfl)
      refine ⟨a.base, a.next, WF_put a.wf _ _, ⟨by simp [bc_len], .inr ⟨b, rest, by simpa using hy, by simpa using hB, by simp [hk]⟩⟩, ?_, a.old⟩
      intro c hc hx
      have m1 : c ≠ b := by
        intro e
        subst e
        rcases hb with h | h
        · exact hx h
        · omega
      simp [m1]
      exact a.same c hc hx
theorem zz_lt {n : Int} (hn : -9223372036854775808 ≤ n ∧ n ≤ 9223372036854775807) : zz n < 18446744073709551616 := by unfold zz; split <;> omega
theorem encU_b (n : Nat) : ∀ b ∈ encU n, b < 256 := by
  induction n using Nat.strongRecOn with
  | ind n ih =>
    intro b hb
    by_cases h : n < 128
    · rw [encU_small h] at hb; simp at hb; omega
    · rw [encU_big h] at hb
      rcases List.mem_cons.1 hb with rfl | hb
      · omega
      · exact ih (n / 128) (by omega) b hb
end Go.Proofs.YtnomffikflfilaaGreat.E8
namespace Go.Proofs.YtnomffikflfilaaGreat.E8
open I8
open Go.Ot Go.RowKit
set_option linter.unusedSimpArgs false
set_option linter.unusedVariables false
abbrev iv (n : Int) : Value := .int .i64 n
end Go.Proofs.YtnomffikflfilaaGreat.E8
namespace Go.Proofs.YtnomffikflfilaaGreat.E8
open I8
open Go.Ot Go.RowKit
set_option linter.unusedSimpArgs false
set_option linter.unusedVariables false
end Go.Proofs.YtnomffikflfilaaGreat.E8
namespace Go.Proofs.YtnomffikflfilaaGreat.E8
open I8
open Go.Ot Go.RowKit
set_option linter.unusedSimpArgs false
set_option linter.unusedVariables false
theorem wpO_app (P : Program) : ∀ (l1 l2 : List LIns) (Q : Tm → Heap → Prop) (t : Tm) (H : Heap), wpO P (l1 ++ l2) Q t H = wpO P l1 (fun t H => wpO P l2 Q t H) t H
  | [], l2, Q, t, H => rfl
  | i :: l1, l2, Q, t, H => by
    simp only [List.cons_append, wpO, wpO_app P l1 l2]
def hasB (s : ByteArray) (c : Nat) : Bool := s.data.toList.any fun b => b.toNat == c
def InvH (H : Heap) (s : ByteArray) (c : Nat) (k : Nat) (t : Tm) (H1 : Heap) : Prop :=
  ∃ i : Nat, i + k = s.size ∧ t 0 = .string s ∧ t 1 = .int .u8 (c : Int) ∧ t 5 = iv i ∧ H1 = H ∧ (s.data.toList.take i).any (fun b => b.toNat == c) = false
theorem has_T {H : Heap} (s : ByteArray) (c : Nat) (hs : s.size ≤ 1000000) : T Tryz.prog 149 [.string s, .int .u8 (c : Int)] H (.bool (hasB s c)) H := by
  refine T_eq hm light149 ?_
  simp [L149]
  refine loop_at (InvH H s c) s.size ?_ ?_
  · exact ⟨0, by omega, by simp, by simp, by simp, rfl, by simp⟩
  · rintro k t H1 ⟨i, hik, t0, t1, t5, rfl, hno⟩
    have hsz : s.size = s.data.toList.length := by rw [Array.length_toList]; rfl
    cases k with
    | zero =>
      have e0 : i = s.size := by omega
      subst e0
      rw [hsz, List.take_length] at hno
      simp [L149_1, t0, t5, hasB, hno]
    | succ k =>
      have hi : i < s.size := by omega
      have e3 : IntKind.i64.wrap ((i : Int) + 1) = ((i + 1 : Nat) : Int) := by rw [w64 _ (by omega)]; omega
      obtain ⟨i1, hi1⟩ : ∃ i1, i1 = i + 1 := ⟨_, rfl⟩
      rw [← hi1] at e3
      have hl : i < s.data.toList.length := by omega
      obtain ⟨w, hw⟩ : ∃ w : Nat, w = (s.data.toList[i]).toNat := ⟨_, rfl⟩
      have ix : sIdxStr (.string s) (iv i) = some (.int .u8 (w : Int)) := by
        simp only [sIdxStr]
        rw [dif_pos ⟨by omega, by simpa using hi⟩, hw]
        simp
        rfl
      by_cases hc : w = c
      · have hyes : hasB s c = true := by
          unfold hasB
          rw [List.any_eq_true]
          exact ⟨_, List.getElem_mem hl, by rw [← hw, hc]; simp⟩
        simp [L149_1, t0, t1, t5, hi, ix, hc, hyes]
      · simp [L149_1, t0, t1, t5, hi, ix, hc, e3]
        refine ⟨k, Nat.lt_succ_self k, i1, by omega, by simp [t0], by simp [t1], by simp, rfl, ?_⟩
        rw [hi1, List.take_succ_eq_append_getElem hl, List.any_append, hno]
        have hz : (s.data.toList[i].toNat == c) = false := by rw [← hw]; simp [hc]
        simp only [List.any_cons, List.any_nil, hz, Bool.or_false]
theorem bad_T {H : Heap} (n : Int) : T Tryz.prog 150 [iv n] H (.bool (badR n)) H := by
  refine T_eq hm light150 ?_
  by_cases h1 : n < 0
  · simp [L150, badR, h1]
  · by_cases h2 : 15 < n <;> simp [L150, badR, h1, h2]
structure O2 (H : Heap) (t : Tm) (bx : Nat) (x : In) (ps : ByteArray) (cells long : Int) : Prop where
  t3 : t 3 = ptr bx
  t7 : t 7 = .string ps
  t1 : t 1 = iv cells
  t2 : t 2 = iv long
  lx : ∀ j, H.load ⟨bx, j, none⟩ = (rowI x)[j]?
  sz : ps.size ≤ 1000000
def G1a : List LIns := [⟨some 11, .move (.tmp 7), none⟩, ⟨some 12, .bin .eql (.tmp 11) (.const (.string ⟨#[63]⟩)), none⟩, ⟨some 13, .move (.tmp 12), none⟩]
theorem q1a {H : Heap} {t : Tm} {bx : Nat} {x : In} {ps : ByteArray} {cells long : Int} (h : O2 H t bx x ps cells long) {K : Tm → Heap → Prop}
    (hK : ∀ t' : Tm, O2 H t' bx x ps cells long → t' 13 = .bool (ps.toList == [63]) → K t' (rdy H)) : wpO Tryz.prog G1a K t (rdy H) := by
  obtain ⟨t3, t7, t1, t2, lx, sz⟩ := h
  have lx0 := lx
  simp only [rowI] at lx
  unfold G1a
  by_cases hq : ps.toList = [63]
  · simp [t7, sBin, sBinS]
    refine hK _ ⟨by simp [t3], by simp [t7], by simp [t1], by simp [t2], lx0, sz⟩ ?_
    simp
  · simp [t7, sBin, sBinS]
    refine hK _ ⟨by simp [t3], by simp [t7], by simp [t1], by simp [t2], lx0, sz⟩ ?_
    simp
def G1b : List LIns := [⟨some 14, .move (.tmp 7), (some (13, false))⟩, ⟨some 15, .call 149 [.tmp 14, .const (.int .u8 111)], (some (13, false))⟩, ⟨some 16, .move (.tmp 15), (some (13, false))⟩, ⟨some 17, .off 1 (.tmp 3), (some (16, true))⟩, ⟨some 18, .load false 1 (.tmp 17), (some (16, true))⟩, ⟨some 19, .bin .lss (.tmp 18) (.const (.int .i64 1)), (some (16, true))⟩, ⟨some 20, .move (.tmp 19), (some (16, true))⟩, ⟨some 21, .off 1 (.tmp 3), (some (20, false))⟩, ⟨some 22, .load false 1 (.tmp 21), (some (20, false))⟩, ⟨some 23, .bin .gtr (.tmp 22) (.const (.int .i64 18)), (some (20, false))⟩, ⟨some 24, .pick (.tmp 20) (.const (.bool true)) (.tmp 23), (some (16, true))⟩, ⟨some 25, .pick (.tmp 16) (.tmp 24) (.const (.bool false)), (some (13, false))⟩, ⟨some 26, .pick (.tmp 13) (.const (.bool true)) (.tmp 25), none⟩, ⟨some 27, .move (.tmp 26), none⟩]
theorem q1b {H : Heap} {t : Tm} {bx : Nat} {x : In} {ps : ByteArray} {cells long : Int} (h : O2 H t bx x ps cells long) {v0 : Bool} (hin : t 13 = .bool v0) {K : Tm → Heap → Prop}
    (hK : ∀ t' : Tm, O2 H t' bx x ps cells long → t' 27 = .bool (v0 || (hasB ps 111 && (decide (x.op < 1) || decide (18 < x.op)))) → K t' (rdy H)) : wpO Tryz.prog G1b K t (rdy H) := by
  obtain ⟨t3, t7, t1, t2, lx, sz⟩ := h
  have lx0 := lx
  simp only [rowI] at lx
  unfold G1b
  cases v0 with
  | true =>
    simp [hin, t1, t2, t3, t7, lx]
    refine hK _ ⟨by simp [t3], by simp [t7], by simp [t1], by simp [t2], lx0, sz⟩ ?_
    simp [hin]
  | false =>
    simp [hin, t1, t2, t3, t7, lx]
    refine goT_of (has_T ps 111 sz) ?_
    cases h1 : hasB ps 111 with
    | false =>
      simp [hin, t1, t2, t3, t7, lx]
      refine hK _ ⟨by simp [t3], by simp [t7], by simp [t1], by simp [t2], lx0, sz⟩ ?_
      simp [hin, h1]
    | true =>
      by_cases c0 : x.op < 1 <;> by_cases c1 : 18 < x.op <;> simp [hin, t1, t2, t3, t7, lx, h1, c0, c1] <;>
        (refine hK _ ⟨by simp [t3], by simp [t7], by simp [t1], by simp [t2], lx0, sz⟩ ?_; simp [hin, h1, c0, c1])
def G1c : List LIns := [⟨some 28, .move (.tmp 7), (some (27, false))⟩, ⟨some 29, .call 149 [.tmp 28, .const (.int .u8 112)], (some (27, false))⟩, ⟨some 30, .move (.tmp 29), (some (27, false))⟩, ⟨some 31, .off 1 (.tmp 3), (some (30, true))⟩, ⟨some 32, .load false 1 (.tmp 31), (some (30, true))⟩, ⟨some 33, .bin .lss (.tmp 32) (.const (.int .i64 19)), (some (30, true))⟩, ⟨some 34, .move (.tmp 33), (some (30, true))⟩, ⟨some 35, .off 1 (.tmp 3), (some (34, false))⟩, ⟨some 36, .load false 1 (.tmp 35), (some (34, false))⟩, ⟨some 37, .bin .gtr (.tmp 36) (.const (.int .i64 21)), (some (34, false))⟩, ⟨some 38, .pick (.tmp 34) (.const (.bool true)) (.tmp 37), (some (30, true))⟩, ⟨some 39, .pick (.tmp 30) (.tmp 38) (.const (.bool false)), (some (27, false))⟩, ⟨some 40, .pick (.tmp 27) (.const (.bool true)) (.tmp 39), none⟩]
theorem q1c {H : Heap} {t : Tm} {bx : Nat} {x : In} {ps : ByteArray} {cells long : Int} (h : O2 H t bx x ps cells long) {v0 : Bool} (hin : t 27 = .bool v0) {K : Tm → Heap → Prop}
    (hK : ∀ t' : Tm, O2 H t' bx x ps cells long → t' 40 = .bool (v0 || (hasB ps 112 && (decide (x.op < 19) || decide (21 < x.op)))) → K t' (rdy H)) : wpO Tryz.prog G1c K t (rdy H) := by
  obtain ⟨t3, t7, t1, t2, lx, sz⟩ := h
  have lx0 := lx
  simp only [rowI] at lx
  unfold G1c
  cases v0 with
  | true =>
    simp [hin, t1, t2, t3, t7, lx]
    refine hK _ ⟨by simp [t3], by simp [t7], by simp [t1], by simp [t2], lx0, sz⟩ ?_
    simp [hin]
  | false =>
    simp [hin, t1, t2, t3, t7, lx]
    refine goT_of (has_T ps 112 sz) ?_
    cases h1 : hasB ps 112 with
    | false =>
      simp [hin, t1, t2, t3, t7, lx]
      refine hK _ ⟨by simp [t3], by simp [t7], by simp [t1], by simp [t2], lx0, sz⟩ ?_
      simp [hin, h1]
    | true =>
      by_cases c0 : x.op < 19 <;> by_cases c1 : 21 < x.op <;> simp [hin, t1, t2, t3, t7, lx, h1, c0, c1] <;>
        (refine hK _ ⟨by simp [t3], by simp [t7], by simp [t1], by simp [t2], lx0, sz⟩ ?_; simp [hin, h1, c0, c1])
def G2a : List LIns := [⟨some 41, .move (.tmp 7), none⟩, ⟨some 42, .call 149 [.tmp 41, .const (.int .u8 97)], none⟩, ⟨some 43, .move (.tmp 42), none⟩, ⟨some 44, .off 2 (.tmp 3), (some (43, true))⟩, ⟨some 45, .load false 1 (.tmp 44), (some (43, true))⟩, ⟨some 46, .call 150 [.tmp 45], (some (43, true))⟩, ⟨some 47, .pick (.tmp 43) (.tmp 46) (.const (.bool false)), none⟩, ⟨some 48, .move (.tmp 47), none⟩]
theorem q2a {H : Heap} {t : Tm} {bx : Nat} {x : In} {ps : ByteArray} {cells long : Int} (h : O2 H t bx x ps cells long) {K : Tm → Heap → Prop}
    (hK : ∀ t' : Tm, O2 H t' bx x ps cells long → t' 48 = .bool (hasB ps 97 && badR x.a) → K t' (rdy H)) : wpO Tryz.prog G2a K t (rdy H) := by
  obtain ⟨t3, t7, t1, t2, lx, sz⟩ := h
  have lx0 := lx
  simp only [rowI] at lx
  unfold G2a
  simp [t1, t2, t3, t7, lx]
  refine goT_of (has_T ps 97 sz) ?_
  cases h1 : hasB ps 97 with
  | false =>
    simp [t1, t2, t3, t7, lx]
    refine hK _ ⟨by simp [t3], by simp [t7], by simp [t1], by simp [t2], lx0, sz⟩ ?_
    simp [h1]
  | true =>
    simp [t1, t2, t3, t7, lx]
    refine goT_of (bad_T _) ?_
    simp [t1, t2, t3, t7, lx]
    refine hK _ ⟨by simp [t3], by simp [t7], by simp [t1], by simp [t2], lx0, sz⟩ ?_
    simp [h1]
def G2b : List LIns := [⟨some 49, .move (.tmp 7), (some (48, false))⟩, ⟨some 50, .call 149 [.tmp 49, .const (.int .u8 98)], (some (48, false))⟩, ⟨some 51, .move (.tmp 50), (some (48, false))⟩, ⟨some 52, .off 3 (.tmp 3), (some (51, true))⟩, ⟨some 53, .load false 1 (.tmp 52), (some (51, true))⟩, ⟨some 54, .call 150 [.tmp 53], (some (51, true))⟩, ⟨some 55, .pick (.tmp 51) (.tmp 54) (.const (.bool false)), (some (48, false))⟩, ⟨some 56, .pick (.tmp 48) (.const (.bool true)) (.tmp 55), none⟩, ⟨some 57, .move (.tmp 56), none⟩]
theorem q2b {H : Heap} {t : Tm} {bx : Nat} {x : In} {ps : ByteArray} {cells long : Int} (h : O2 H t bx x ps cells long) {v0 : Bool} (hin : t 48 = .bool v0) {K : Tm → Heap → Prop}
    (hK : ∀ t' : Tm, O2 H t' bx x ps cells long → t' 57 = .bool (v0 || (hasB ps 98 && badR x.b)) → K t' (rdy H)) : wpO Tryz.prog G2b K t (rdy H) := by
  obtain ⟨t3, t7, t1, t2, lx, sz⟩ := h
  have lx0 := lx
  simp only [rowI] at lx
  unfold G2b
  cases v0 with
  | true =>
    simp [hin, t1, t2, t3, t7, lx]
    refine hK _ ⟨by simp [t3], by simp [t7], by simp [t1], by simp [t2], lx0, sz⟩ ?_
    simp [hin]
  | false =>
    simp [hin, t1, t2, t3, t7, lx]
    refine goT_of (has_T ps 98 sz) ?_
    cases h1 : hasB ps 98 with
    | false =>
      simp [hin, t1, t2, t3, t7, lx]
      refine hK _ ⟨by simp [t3], by simp [t7], by simp [t1], by simp [t2], lx0, sz⟩ ?_
      simp [hin, h1]
    | true =>
      simp [hin, t1, t2, t3, t7, lx]
      refine goT_of (bad_T _) ?_
      simp [hin, t1, t2, t3, t7, lx]
      refine hK _ ⟨by simp [t3], by simp [t7], by simp [t1], by simp [t2], lx0, sz⟩ ?_
      simp [hin, h1]
def G2c : List LIns := [⟨some 58, .move (.tmp 7), (some (57, false))⟩, ⟨some 59, .call 149 [.tmp 58, .const (.int .u8 99)], (some (57, false))⟩, ⟨some 60, .move (.tmp 59), (some (57, false))⟩, ⟨some 61, .off 4 (.tmp 3), (some (60, true))⟩, ⟨some 62, .load false 1 (.tmp 61), (some (60, true))⟩, ⟨some 63, .call 150 [.tmp 62], (some (60, true))⟩, ⟨some 64, .pick (.tmp 60) (.tmp 63) (.const (.bool false)), (some (57, false))⟩, ⟨some 65, .pick (.tmp 57) (.const (.bool true)) (.tmp 64), none⟩]
theorem q2c {H : Heap} {t : Tm} {bx : Nat} {x : In} {ps : ByteArray} {cells long : Int} (h : O2 H t bx x ps cells long) {v0 : Bool} (hin : t 57 = .bool v0) {K : Tm → Heap → Prop}
    (hK : ∀ t' : Tm, O2 H t' bx x ps cells long → t' 65 = .bool (v0 || (hasB ps 99 && badR x.c)) → K t' (rdy H)) : wpO Tryz.prog G2c K t (rdy H) := by
  obtain ⟨t3, t7, t1, t2, lx, sz⟩ := h
  have lx0 := lx
  simp only [rowI] at lx
  unfold G2c
  cases v0 with
  | true =>
    simp [hin, t1, t2, t3, t7, lx]
    refine hK _ ⟨by simp [t3], by simp [t7], by simp [t1], by simp [t2], lx0, sz⟩ ?_
    simp [hin]
  | false =>
    simp [hin, t1, t2, t3, t7, lx]
    refine goT_of (has_T ps 99 sz) ?_
    cases h1 : hasB ps 99 with
    | false =>
      simp [hin, t1, t2, t3, t7, lx]
      refine hK _ ⟨by simp [t3], by simp [t7], by simp [t1], by simp [t2], lx0, sz⟩ ?_
      simp [hin, h1]
    | true =>
      simp [hin, t1, t2, t3, t7, lx]
      refine goT_of (bad_T _) ?_
      simp [hin, t1, t2, t3, t7, lx]
      refine hK _ ⟨by simp [t3], by simp [t7], by simp [t1], by simp [t2], lx0, sz⟩ ?_
      simp [hin, h1]
def G3a : List LIns := [⟨some 66, .move (.tmp 7), none⟩, ⟨some 67, .call 149 [.tmp 66, .const (.int .u8 97)], none⟩, ⟨some 68, .un .not (.tmp 67), none⟩, ⟨some 69, .move (.tmp 68), none⟩, ⟨some 70, .off 2 (.tmp 3), (some (69, true))⟩, ⟨some 71, .load false 1 (.tmp 70), (some (69, true))⟩, ⟨some 72, .bin .neq (.tmp 71) (.const (.int .i64 0)), (some (69, true))⟩, ⟨some 73, .pick (.tmp 69) (.tmp 72) (.const (.bool false)), none⟩, ⟨some 74, .move (.tmp 73), none⟩]
theorem q3a {H : Heap} {t : Tm} {bx : Nat} {x : In} {ps : ByteArray} {cells long : Int} (h : O2 H t bx x ps cells long) {K : Tm → Heap → Prop}
    (hK : ∀ t' : Tm, O2 H t' bx x ps cells long → t' 74 = .bool (!hasB ps 97 && decide (x.a ≠ 0)) → K t' (rdy H)) : wpO Tryz.prog G3a K t (rdy H) := by
  obtain ⟨t3, t7, t1, t2, lx, sz⟩ := h
  have lx0 := lx
  simp only [rowI] at lx
  unfold G3a
  simp [t1, t2, t3, t7, lx]
  refine goT_of (has_T ps 97 sz) ?_
  cases h1 : hasB ps 97 with
  | true =>
    simp [t1, t2, t3, t7, lx]
    refine hK _ ⟨by simp [t3], by simp [t7], by simp [t1], by simp [t2], lx0, sz⟩ ?_
    simp [h1]
  | false =>
    by_cases c0 : x.a = 0 <;> simp [t1, t2, t3, t7, lx, h1, c0] <;>
      (refine hK _ ⟨by simp [t3], by simp [t7], by simp [t1], by simp [t2], lx0, sz⟩ ?_; simp [h1, c0])
def G3b : List LIns := [⟨some 75, .move (.tmp 7), (some (74, false))⟩, ⟨some 76, .call 149 [.tmp 75, .const (.int .u8 98)], (some (74, false))⟩, ⟨some 77, .un .not (.tmp 76), (some (74, false))⟩, ⟨some 78, .move (.tmp 77), (some (74, false))⟩, ⟨some 79, .off 3 (.tmp 3), (some (78, true))⟩, ⟨some 80, .load false 1 (.tmp 79), (some (78, true))⟩, ⟨some 81, .bin .neq (.tmp 80) (.const (.int .i64 0)), (some (78, true))⟩, ⟨some 82, .pick (.tmp 78) (.tmp 81) (.const (.bool false)), (some (74, false))⟩, ⟨some 83, .pick (.tmp 74) (.const (.bool true)) (.tmp 82), none⟩, ⟨some 84, .move (.tmp 83), none⟩]
theorem q3b {H : Heap} {t : Tm} {bx : Nat} {x : In} {ps : ByteArray} {cells long : Int} (h : O2 H t bx x ps cells long) {v0 : Bool} (hin : t 74 = .bool v0) {K : Tm → Heap → Prop}
    (hK : ∀ t' : Tm, O2 H t' bx x ps cells long → t' 84 = .bool (v0 || (!hasB ps 98 && decide (x.b ≠ 0))) → K t' (rdy H)) : wpO Tryz.prog G3b K t (rdy H) := by
  obtain ⟨t3, t7, t1, t2, lx, sz⟩ := h
  have lx0 := lx
  simp only [rowI] at lx
  unfold G3b
  cases v0 with
  | true =>
    simp [hin, t1, t2, t3, t7, lx]
    refine hK _ ⟨by simp [t3], by simp [t7], by simp [t1], by simp [t2], lx0, sz⟩ ?_
    simp [hin]
  | false =>
    simp [hin, t1, t2, t3, t7, lx]
    refine goT_of (has_T ps 98 sz) ?_
    cases h1 : hasB ps 98 with
    | true =>
      simp [hin, t1, t2, t3, t7, lx]
      refine hK _ ⟨by simp [t3], by simp [t7], by simp [t1], by simp [t2], lx0, sz⟩ ?_
      simp [hin, h1]
    | false =>
      by_cases c0 : x.b = 0 <;> simp [hin, t1, t2, t3, t7, lx, h1, c0] <;>
        (refine hK _ ⟨by simp [t3], by simp [t7], by simp [t1], by simp [t2], lx0, sz⟩ ?_; simp [hin, h1, c0])
def G3c : List LIns := [⟨some 85, .move (.tmp 7), (some (84, false))⟩, ⟨some 86, .call 149 [.tmp 85, .const (.int .u8 99)], (some (84, false))⟩, ⟨some 87, .un .not (.tmp 86), (some (84, false))⟩, ⟨some 88, .move (.tmp 87), (some (84, false))⟩, ⟨some 89, .move (.tmp 7), (some (88, true))⟩, ⟨some 90, .call 149 [.tmp 89, .const (.int .u8 114)], (some (88, true))⟩, ⟨some 91, .un .not (.tmp 90), (some (88, true))⟩, ⟨some 92, .pick (.tmp 88) (.tmp 91) (.const (.bool false)), (some (84, false))⟩, ⟨some 93, .move (.tmp 92), (some (84, false))⟩, ⟨some 94, .off 4 (.tmp 3), (some (93, true))⟩, ⟨some 95, .load false 1 (.tmp 94), (some (93, true))⟩, ⟨some 96, .bin .neq (.tmp 95) (.const (.int .i64 0)), (some (93, true))⟩, ⟨some 97, .pick (.tmp 93) (.tmp 96) (.const (.bool false)), (some (84, false))⟩, ⟨some 98, .pick (.tmp 84) (.const (.bool true)) (.tmp 97), none⟩, ⟨some 99, .move (.tmp 98), none⟩]
theorem q3c {H : Heap} {t : Tm} {bx : Nat} {x : In} {ps : ByteArray} {cells long : Int} (h : O2 H t bx x ps cells long) {v0 : Bool} (hin : t 84 = .bool v0) {K : Tm → Heap → Prop}
    (hK : ∀ t' : Tm, O2 H t' bx x ps cells long → t' 99 = .bool (v0 || (!hasB ps 99 && !hasB ps 114 && decide (x.c ≠ 0))) → K t' (rdy H)) : wpO Tryz.prog G3c K t (rdy H) := by
  obtain ⟨t3, t7, t1, t2, lx, sz⟩ := h
  have lx0 := lx
  simp only [rowI] at lx
  unfold G3c
  cases v0 with
  | true =>
    simp [hin, t1, t2, t3, t7, lx]
    refine hK _ ⟨by simp [t3], by simp [t7], by simp [t1], by simp [t2], lx0, sz⟩ ?_
    simp [hin]
  | false =>
    simp [hin, t1, t2, t3, t7, lx]
    refine goT_of (has_T ps 99 sz) ?_
    cases h1 : hasB ps 99 with
    | true =>
      simp [hin, t1, t2, t3, t7, lx]
      refine hK _ ⟨by simp [t3], by simp [t7], by simp [t1], by simp [t2], lx0, sz⟩ ?_
      simp [hin, h1]
    | false =>
      simp [hin, t1, t2, t3, t7, lx]
      refine goT_of (has_T ps 114 sz) ?_
      cases h2 : hasB ps 114 with
      | true =>
        simp [hin, t1, t2, t3, t7, lx]
        refine hK _ ⟨by simp [t3], by simp [t7], by simp [t1], by simp [t2], lx0, sz⟩ ?_
        simp [hin, h1, h2]
      | false =>
        by_cases c0 : x.c = 0 <;> simp [hin, t1, t2, t3, t7, lx, h1, h2, c0] <;>
          (refine hK _ ⟨by simp [t3], by simp [t7], by simp [t1], by simp [t2], lx0, sz⟩ ?_; simp [hin, h1, h2, c0])
def G3k : List LIns := [⟨some 100, .move (.tmp 7), (some (99, false))⟩, ⟨some 101, .call 149 [.tmp 100, .const (.int .u8 107)], (some (99, false))⟩, ⟨some 102, .un .not (.tmp 101), (some (99, false))⟩, ⟨some 103, .move (.tmp 102), (some (99, false))⟩, ⟨some 104, .move (.tmp 7), (some (103, true))⟩, ⟨some 105, .call 149 [.tmp 104, .const (.int .u8 116)], (some (103, true))⟩, ⟨some 106, .un .not (.tmp 105), (some (103, true))⟩, ⟨some 107, .pick (.tmp 103) (.tmp 106) (.const (.bool false)), (some (99, false))⟩, ⟨some 108, .move (.tmp 107), (some (99, false))⟩, ⟨some 109, .off 5 (.tmp 3), (some (108, true))⟩, ⟨some 110, .load false 1 (.tmp 109), (some (108, true))⟩, ⟨some 111, .bin .neq (.tmp 110) (.const (.int .i64 0)), (some (108, true))⟩, ⟨some 112, .pick (.tmp 108) (.tmp 111) (.const (.bool false)), (some (99, false))⟩, ⟨some 113, .pick (.tmp 99) (.const (.bool true)) (.tmp 112), none⟩, ⟨some 114, .move (.tmp 113), none⟩]
theorem q3k {H : Heap} {t : Tm} {bx : Nat} {x : In} {ps : ByteArray} {cells long : Int} (h : O2 H t bx x ps cells long) {v0 : Bool} (hin : t 99 = .bool v0) {K : Tm → Heap → Prop}
    (hK : ∀ t' : Tm, O2 H t' bx x ps cells long → t' 114 = .bool (v0 || (!hasB ps 107 && !hasB ps 116 && decide (x.k ≠ 0))) → K t' (rdy H)) : wpO Tryz.prog G3k K t (rdy H) := by
  obtain ⟨t3, t7, t1, t2, lx, sz⟩ := h
  have lx0 := lx
  simp only [rowI] at lx
  unfold G3k
  cases v0 with
  | true =>
    simp [hin, t1, t2, t3, t7, lx]
    refine hK _ ⟨by simp [t3], by simp [t7], by simp [t1], by simp [t2], lx0, sz⟩ ?_
    simp [hin]
  | false =>
    simp [hin, t1, t2, t3, t7, lx]
    refine goT_of (has_T ps 107 sz) ?_
    cases h1 : hasB ps 107 with
    | true =>
      simp [hin, t1, t2, t3, t7, lx]
      refine hK _ ⟨by simp [t3], by simp [t7], by simp [t1], by simp [t2], lx0, sz⟩ ?_
      simp [hin, h1]
    | false =>
      simp [hin, t1, t2, t3, t7, lx]
      refine goT_of (has_T ps 116 sz) ?_
      cases h2 : hasB ps 116 with
      | true =>
        simp [hin, t1, t2, t3, t7, lx]
        refine hK _ ⟨by simp [t3], by simp [t7], by simp [t1], by simp [t2], lx0, sz⟩ ?_
        simp [hin, h1, h2]
      | false =>
        by_cases c0 : x.k = 0 <;> simp [hin, t1, t2, t3, t7, lx, h1, h2, c0] <;>
          (refine hK _ ⟨by simp [t3], by simp [t7], by simp [t1], by simp [t2], lx0, sz⟩ ?_; simp [hin, h1, h2, c0])
def G3o : List LIns := [⟨some 115, .move (.tmp 7), (some (114, false))⟩, ⟨some 116, .call 149 [.tmp 115, .const (.int .u8 111)], (some (114, false))⟩, ⟨some 117, .un .not (.tmp 116), (some (114, false))⟩, ⟨some 118, .move (.tmp 117), (some (114, false))⟩, ⟨some 119, .move (.tmp 7), (some (118, true))⟩, ⟨some 120, .call 149 [.tmp 119, .const (.int .u8 112)], (some (118, true))⟩, ⟨some 121, .un .not (.tmp 120), (some (118, true))⟩, ⟨some 122, .pick (.tmp 118) (.tmp 121) (.const (.bool false)), (some (114, false))⟩, ⟨some 123, .move (.tmp 122), (some (114, false))⟩, ⟨some 124, .off 1 (.tmp 3), (some (123, true))⟩, ⟨some 125, .load false 1 (.tmp 124), (some (123, true))⟩, ⟨some 126, .bin .neq (.tmp 125) (.const (.int .i64 0)), (some (123, true))⟩, ⟨some 127, .pick (.tmp 123) (.tmp 126) (.const (.bool false)), (some (114, false))⟩, ⟨some 128, .pick (.tmp 114) (.const (.bool true)) (.tmp 127), none⟩]
theorem q3o {H : Heap} {t : Tm} {bx : Nat} {x : In} {ps : ByteArray} {cells long : Int} (h : O2 H t bx x ps cells long) {v0 : Bool} (hin : t 114 = .bool v0) {K : Tm → Heap → Prop}
    (hK : ∀ t' : Tm, O2 H t' bx x ps cells long → t' 128 = .bool (v0 || (!hasB ps 111 && !hasB ps 112 && decide (x.op ≠ 0))) → K t' (rdy H)) : wpO Tryz.prog G3o K t (rdy H) := by
  obtain ⟨t3, t7, t1, t2, lx, sz⟩ := h
  have lx0 := lx
  simp only [rowI] at lx
  unfold G3o
  cases v0 with
  | true =>
    simp [hin, t1, t2, t3, t7, lx]
    refine hK _ ⟨by simp [t3], by simp [t7], by simp [t1], by simp [t2], lx0, sz⟩ ?_
    simp [hin]
  | false =>
    simp [hin, t1, t2, t3, t7, lx]
    refine goT_of (has_T ps 111 sz) ?_
    cases h1 : hasB ps 111 with
    | true =>
      simp [hin, t1, t2, t3, t7, lx]
      refine hK _ ⟨by simp [t3], by simp [t7], by simp [t1], by simp [t2], lx0, sz⟩ ?_
      simp [hin, h1]
    | false =>
      simp [hin, t1, t2, t3, t7, lx]
      refine goT_of (has_T ps 112 sz) ?_
      cases h2 : hasB ps 112 with
      | true =>
        simp [hin, t1, t2, t3, t7, lx]
        refine hK _ ⟨by simp [t3], by simp [t7], by simp [t1], by simp [t2], lx0, sz⟩ ?_
        simp [hin, h1, h2]
      | false =>
        by_cases c0 : x.op = 0 <;> simp [hin, t1, t2, t3, t7, lx, h1, h2, c0] <;>
          (refine hK _ ⟨by simp [t3], by simp [t7], by simp [t1], by simp [t2], lx0, sz⟩ ?_; simp [hin, h1, h2, c0])
def G4 : List LIns := [⟨some 129, .move (.tmp 7), none⟩, ⟨some 130, .call 149 [.tmp 129, .const (.int .u8 114)], none⟩, ⟨some 131, .move (.tmp 130), none⟩, ⟨some 132, .off 4 (.tmp 3), (some (131, true))⟩, ⟨some 133, .load false 1 (.tmp 132), (some (131, true))⟩, ⟨some 134, .bin .lss (.tmp 133) (.const (.int .i64 0)), (some (131, true))⟩, ⟨some 135, .move (.tmp 134), (some (131, true))⟩, ⟨some 136, .off 4 (.tmp 3), (some (135, false))⟩, ⟨some 137, .load false 1 (.tmp 136), (some (135, false))⟩, ⟨some 138, .move (.tmp 1), (some (135, false))⟩, ⟨some 139, .bin .geq (.tmp 137) (.tmp 138), (some (135, false))⟩, ⟨some 140, .pick (.tmp 135) (.const (.bool true)) (.tmp 139), (some (131, true))⟩, ⟨some 141, .move (.tmp 140), (some (131, true))⟩, ⟨some 142, .off 4 (.tmp 3), (some (141, false))⟩, ⟨some 143, .load false 1 (.tmp 142), (some (141, false))⟩, ⟨some 144, .bin .geq (.tmp 143) (.const (.int .i64 4)), (some (141, false))⟩, ⟨some 145, .pick (.tmp 141) (.const (.bool true)) (.tmp 144), (some (131, true))⟩, ⟨some 146, .pick (.tmp 131) (.tmp 145) (.const (.bool false)), none⟩]
theorem q4 {H : Heap} {t : Tm} {bx : Nat} {x : In} {ps : ByteArray} {cells long : Int} (h : O2 H t bx x ps cells long) {K : Tm → Heap → Prop}
    (hK : ∀ t' : Tm, O2 H t' bx x ps cells long → t' 146 = .bool (hasB ps 114 && (decide (x.c < 0) || decide (cells ≤ x.c) || decide (4 ≤ x.c))) → K t' (rdy H)) : wpO Tryz.prog G4 K t (rdy H) := by
  obtain ⟨t3, t7, t1, t2, lx, sz⟩ := h
  have lx0 := lx
  simp only [rowI] at lx
  unfold G4
  simp [t1, t2, t3, t7, lx]
  refine goT_of (has_T ps 114 sz) ?_
  cases h1 : hasB ps 114 with
  | false =>
    simp [t1, t2, t3, t7, lx]
    refine hK _ ⟨by simp [t3], by simp [t7], by simp [t1], by simp [t2], lx0, sz⟩ ?_
    simp [h1]
  | true =>
    by_cases c0 : x.c < 0 <;> by_cases c1 : cells ≤ x.c <;> by_cases c2 : 4 ≤ x.c <;> simp [t1, t2, t3, t7, lx, h1, c0, c1, c2] <;>
      (refine hK _ ⟨by simp [t3], by simp [t7], by simp [t1], by simp [t2], lx0, sz⟩ ?_; simp [h1, c0, c1, c2])
def G5 : List LIns := [⟨some 147, .move (.tmp 7), none⟩, ⟨some 148, .call 149 [.tmp 147, .const (.int .u8 116)], none⟩, ⟨some 149, .move (.tmp 148), none⟩, ⟨some 150, .off 5 (.tmp 3), (some (149, true))⟩, ⟨some 151, .load false 1 (.tmp 150), (some (149, true))⟩, ⟨some 152, .bin .lss (.tmp 151) (.const (.int .i64 0)), (some (149, true))⟩, ⟨some 153, .move (.tmp 152), (some (149, true))⟩, ⟨some 154, .off 5 (.tmp 3), (some (153, false))⟩, ⟨some 155, .load false 1 (.tmp 154), (some (153, false))⟩, ⟨some 156, .move (.tmp 2), (some (153, false))⟩, ⟨some 157, .bin .geq (.tmp 155) (.tmp 156), (some (153, false))⟩, ⟨some 158, .pick (.tmp 153) (.const (.bool true)) (.tmp 157), (some (149, true))⟩, ⟨some 159, .pick (.tmp 149) (.tmp 158) (.const (.bool false)), none⟩]
theorem q5 {H : Heap} {t : Tm} {bx : Nat} {x : In} {ps : ByteArray} {cells long : Int} (h : O2 H t bx x ps cells long) {K : Tm → Heap → Prop}
    (hK : ∀ t' : Tm, O2 H t' bx x ps cells long → t' 159 = .bool (hasB ps 116 && (decide (x.k < 0) || decide (long ≤ x.k))) → K t' (rdy H)) : wpO Tryz.prog G5 K t (rdy H) := by
  obtain ⟨t3, t7, t1, t2, lx, sz⟩ := h
  have lx0 := lx
  simp only [rowI] at lx
  unfold G5
  simp [t1, t2, t3, t7, lx]
  refine goT_of (has_T ps 116 sz) ?_
  cases h1 : hasB ps 116 with
  | false =>
    simp [t1, t2, t3, t7, lx]
    refine hK _ ⟨by simp [t3], by simp [t7], by simp [t1], by simp [t2], lx0, sz⟩ ?_
    simp [h1]
  | true =>
    by_cases c0 : x.k < 0 <;> by_cases c1 : long ≤ x.k <;> simp [t1, t2, t3, t7, lx, h1, c0, c1] <;>
      (refine hK _ ⟨by simp [t3], by simp [t7], by simp [t1], by simp [t2], lx0, sz⟩ ?_; simp [h1, c0, c1])
end Go.Proofs.YtnomffikflfilaaGreat.E8
namespace Go.Proofs.YtnomffikflfilaaGreat.E8
open I8
open Go.Ot Go.RowKit
set_option linter.unusedSimpArgs false
set_option linter.unusedVariables false
def d1V (ps : ByteArray) (x : In) : Bool := ((ps.toList == [63]) || (hasB ps 111 && (decide (x.op < 1) || decide (18 < x.op)))) || (hasB ps 112 && (decide (x.op < 19) || decide (21 < x.op)))
def d2V (ps : ByteArray) (x : In) : Bool := ((hasB ps 97 && badR x.a) || (hasB ps 98 && badR x.b)) || (hasB ps 99 && badR x.c)
def d3V (ps : ByteArray) (x : In) : Bool := ((((!hasB ps 97 && decide (x.a ≠ 0)) || (!hasB ps 98 && decide (x.b ≠ 0))) || (!hasB ps 99 && !hasB ps 114 && decide (x.c ≠ 0))) || (!hasB ps 107 && !hasB ps 116 && decide (x.k ≠ 0))) || (!hasB ps 111 && !hasB ps 112 && decide (x.op ≠ 0))
def d4V (ps : ByteArray) (x : In) (cells : Int) : Bool := hasB ps 114 && (decide (x.c < 0) || decide (cells ≤ x.c) || decide (4 ≤ x.c))
def d5V (ps : ByteArray) (x : In) (long : Int) : Bool := hasB ps 116 && (decide (x.k < 0) || decide (long ≤ x.k))
theorem fs_w {H : Heap} {t : Tm} {d : Nat} {c : Int} {v : Bool} (hd : t d = .bool v) {Q : Post} (h1 : v = true → ∀ t' : Tm, t' 6 = iv c → Q .ret t' (rdy H)) (h2 : v = false → Q .normal t (rdy H)) : wpA Tryz.prog (.cond (.tmp d) (fail c) .skip) Q t (rdy H) := by
  rw [wpA_cond, ev_tmp, hd]
  cases v with
  | true => rw [goC_true]; exact fail_w c (h1 rfl)
  | false => rw [goC_false, wpA_skip]; exact h2 rfl
theorem st1 {H : Heap} {t : Tm} {bx : Nat} {x : In} {ps : ByteArray} {cells long : Int} (h : O2 H t bx x ps cells long) {Q : Post}
    (h1 : d1V ps x = true → ∀ t' : Tm, t' 6 = iv 81 → Q .ret t' (rdy H)) (h2 : d1V ps x = false → ∀ t' : Tm, O2 H t' bx x ps cells long → Q .normal t' (rdy H)) :
    wpA Tryz.prog (.seq (.region (G1a ++ (G1b ++ G1c))) (.cond (.tmp 40) (fail 81) .skip)) Q t (rdy H) := by
  rw [wpA_seq, wpA_region, wpO_app]
  refine q1a h fun ta ha ea => ?_
  rw [wpO_app]
  refine q1b ha ea fun tb hb eb => q1c hb eb fun tc hc ec => ?_
  exact fs_w ec (fun hv => h1 hv) (fun hv => h2 hv tc hc)
theorem st2 {H : Heap} {t : Tm} {bx : Nat} {x : In} {ps : ByteArray} {cells long : Int} (h : O2 H t bx x ps cells long) {Q : Post}
    (h1 : d2V ps x = true → ∀ t' : Tm, t' 6 = iv 82 → Q .ret t' (rdy H)) (h2 : d2V ps x = false → ∀ t' : Tm, O2 H t' bx x ps cells long → Q .normal t' (rdy H)) :
    wpA Tryz.prog (.seq (.region (G2a ++ (G2b ++ G2c))) (.cond (.tmp 65) (fail 82) .skip)) Q t (rdy H) := by
  rw [wpA_seq, wpA_region, wpO_app]
  refine q2a h fun ta ha ea => ?_
  rw [wpO_app]
  refine q2b ha ea fun tb hb eb => q2c hb eb fun tc hc ec => ?_
  exact fs_w ec (fun hv => h1 hv) (fun hv => h2 hv tc hc)
theorem st3 {H : Heap} {t : Tm} {bx : Nat} {x : In} {ps : ByteArray} {cells long : Int} (h : O2 H t bx x ps cells long) {Q : Post}
    (h1 : d3V ps x = true → ∀ t' : Tm, t' 6 = iv 83 → Q .ret t' (rdy H)) (h2 : d3V ps x = false → ∀ t' : Tm, O2 H t' bx x ps cells long → Q .normal t' (rdy H)) :
    wpA Tryz.prog (.seq (.region (G3a ++ (G3b ++ (G3c ++ (G3k ++ G3o))))) (.cond (.tmp 128) (fail 83) .skip)) Q t (rdy H) := by
  rw [wpA_seq, wpA_region, wpO_app]
  refine q3a h fun ta ha ea => ?_
  rw [wpO_app]
  refine q3b ha ea fun tb hb eb => ?_
  rw [wpO_app]
  refine q3c hb eb fun tc hc ec => ?_
  rw [wpO_app]
  refine q3k hc ec fun td hd ed => q3o hd ed fun te he ee => ?_
  exact fs_w ee (fun hv => h1 hv) (fun hv => h2 hv te he)
theorem st4 {H : Heap} {t : Tm} {bx : Nat} {x : In} {ps : ByteArray} {cells long : Int} (h : O2 H t bx x ps cells long) {Q : Post}
    (h1 : d4V ps x cells = true → ∀ t' : Tm, t' 6 = iv 63 → Q .ret t' (rdy H)) (h2 : d4V ps x cells = false → ∀ t' : Tm, O2 H t' bx x ps cells long → Q .normal t' (rdy H)) :
    wpA Tryz.prog (.seq (.region G4) (.cond (.tmp 146) (fail 63) .skip)) Q t (rdy H) := by
  rw [wpA_seq, wpA_region]
  refine q4 h fun ta ha ea => ?_
  exact fs_w ea (fun hv => h1 hv) (fun hv => h2 hv ta ha)
theorem st5 {H : Heap} {t : Tm} {bx : Nat} {x : In} {ps : ByteArray} {cells long : Int} (h : O2 H t bx x ps cells long) {Q : Post}
    (h1 : d5V ps x long = true → ∀ t' : Tm, t' 6 = iv 84 → Q .ret t' (rdy H)) (h2 : d5V ps x long = false → ∀ t' : Tm, O2 H t' bx x ps cells long → Q .normal t' (rdy H)) :
    wpA Tryz.prog (.seq (.region G5) (.cond (.tmp 159) (fail 84) .skip)) Q t (rdy H) := by
  rw [wpA_seq, wpA_region]
  refine q5 h fun ta ha ea => ?_
  exact fs_w ea (fun hv => h1 hv) (fun hv => h2 hv ta ha)
def plist : List ByteArray := [ByteArray.empty, ⟨#[97, 107]⟩, ⟨#[97, 98]⟩, ⟨#[112, 97, 98]⟩, ⟨#[111, 97, 98, 99]⟩, ⟨#[97, 98, 107]⟩, ⟨#[97, 98, 107]⟩, ⟨#[97, 114]⟩, ⟨#[97]⟩, ⟨#[116]⟩, ⟨#[97, 116]⟩, ⟨#[97, 116]⟩, ⟨#[97]⟩]
def parts (k : Int) : ByteArray := if valid k = true then plist.getD (k - 1).toNat ByteArray.empty else ⟨#[63]⟩
end Go.Proofs.YtnomffikflfilaaGreat.E8
namespace Go.Proofs.YtnomffikflfilaaGreat.E8
open I8
open Go.Ot Go.RowKit
set_option linter.unusedSimpArgs false
set_option linter.unusedVariables false
end Go.Proofs.YtnomffikflfilaaGreat.E8
namespace Go.Proofs.YtnomffikflfilaaGreat.E8
open I8
open Go.Ot Go.RowKit
set_option linter.unusedSimpArgs false
set_option linter.unusedVariables false
theorem AF.beside {H H1 H2 : Heap} {p : Nat} {x x1 : Value} {bs : List Nat} (a : AF H H1 p x bs x1) (hb : H2.base = H1.base) (hn : H1.next ≤ H2.next) (hw : H2.WF) (hk : ∀ b, b < H1.next → H2.blk b = H1.blk b) : AF H H2 p x bs x1 :=
  ⟨hb.trans a.base, Nat.le_trans a.next hn, hw, ⟨by rw [B_eq hb]; exact a.wr.hp, by rw [hk p (a.wf.lt a.wr.bp)]; exact a.wr.bp, a.wr.own.keep (B_eq hb) (fun b h => hk b (a.wr.own.lt a.wf h)), a.wr.px⟩,
   fun b h1 h2 h3 => (hk b (Nat.lt_of_lt_of_le h1 a.next)).trans (a.same b h1 h2 h3), a.old⟩
def Off (H : Heap) (p : Nat) (x : Value) (b : Nat) : Prop := b < H.next ∧ b ≠ p ∧ blkOf x ≠ some b
theorem Off.af {H H1 : Heap} {p b : Nat} {x x1 : Value} {bs : List Nat} (h : Off H p x b) (a : AF H H1 p x bs x1) : Off H1 p x1 b ∧ H1.blk b = H.blk b := by
  obtain ⟨h1, h2, h3⟩ := h
  refine ⟨⟨Nat.lt_of_lt_of_le h1 a.next, h2, fun e => ?_⟩, a.same b h1 h2 h3⟩
  rcases a.old b e with h | h
  · exact h3 h
  · omega
theorem Off.new {H : Heap} (hw : H.WF) {p b : Nat} {x : Value} {bs : List Nat} (h : Off H p x b) (ty sz : Nat) (c : List Value) : Off (H.new ty sz c) p x b := ⟨by simp; have := h.1; omega, h.2⟩
def pairR (q : Bool × Int) : List Value := [.bool q.1, iv q.2]
def pairs (s : Sh) (x : In) : List (Bool × Int) := [(s.one || s.two, x.op), (s.a, x.a), (s.b, x.b), (s.c || s.cell, x.c)]
def encP (q : Bool × Int) : List Nat := if q.1 then encU q.2.toNat else []
def encPs (l : List (Bool × Int)) : List Nat := l.flatMap encP
def encIns (x : In) : List Nat := encU x.kind.toNat ++ encPs (pairs (shp x.kind) x) ++ (if (shp x.kind).k then encU (zz x.k) else [])
def encAll (l : List In) : List Nat := l.flatMap encIns
def okQ (q : Bool × Int) : Prop := q.1 = true → 0 ≤ q.2 ∧ q.2 ≤ 9223372036854775807
theorem encP_len {q : Bool × Int} (h : okQ q) : (encP q).length ≤ 10 := by
  unfold encP
  split
  · rename_i h1
    have := h h1
    exact encU_len 9 _ (by omega)
  · simp
theorem encPs_len {l : List (Bool × Int)} (h : ∀ q ∈ l, okQ q) : (encPs l).length ≤ 10 * l.length := by
  induction l with
  | nil => simp [encPs]
  | cons a l ih =>
    have h1 := ih (fun q hq => h q (by simp [hq]))
    have h2 := encP_len (h a (by simp))
    have e : encPs (a :: l) = encP a ++ encPs l := by simp [encPs]
    rw [e, List.length_append, List.length_cons]; omega
theorem encPs_append (a b : List (Bool × Int)) : encPs (a ++ b) = encPs a ++ encPs b := by simp [encPs]
def InvPr (H : Heap) (p : Nat) (x0 y : Value) (bs : List Nat) (l : List (Bool × Int)) (S : Tm → Prop) (k : Nat) (t : Tm) (H1 : Heap) : Prop :=
  ∃ (i : Nat) (x' : Value), i + k = l.length ∧ S t ∧ t 8 = ptr p ∧ t 75 = y ∧ t 76 = iv (l.length : Nat) ∧ t 77 = iv i ∧ AF H H1 p x0 (bs ++ encPs (l.take i)) x'
def Keeps (S : Tm → Prop) : Prop := ∀ (t : Tm) (d : Nat) (v : Value), (d = 78 ∨ d = 79 ∨ d = 80 ∨ d = 14 ∨ d = 81 ∨ d = 82 ∨ d = 83 ∨ d = 84 ∨ d = 85 ∨ d = 86 ∨ d = 87 ∨ d = 88 ∨ d = 77) → S t → S (put t (some d) v)
theorem pairs_w {H : Heap} {p : Nat} {x0 y : Value} {bs : List Nat} {l : List (Bool × Int)} {S : Tm → Prop} (hS : Keeps S) (hl : bs.length + 10 * l.length ≤ 100000000000000) (hq : ∀ q ∈ l, okQ q)
    (hy : ∀ H1 x' bs', AF H H1 p x0 bs' x' → Rws H1 2 y (l.map pairR)) {t : Tm} (hs : S t) (t8 : t 8 = ptr p) (t75 : t 75 = y) (t76 : t 76 = iv (l.length : Nat)) (t77 : t 77 = iv (0 : Nat)) (w0 : WR H p bs x0) (hw : H.WF) {Q : Post}
    (hQ : ∀ (t' : Tm) (H' : Heap) (x' : Value), S t' → t' 8 = ptr p → AF H H' p x0 (bs ++ encPs l) x' → Q (.exit 2) t' (rdy H')) : wpA Tryz.prog (.loop L74_1) Q t (rdy H) := by
  refine loop_at (InvPr H p x0 y bs l S) l.length ?_ ?_
  · exact ⟨0, x0, by omega, hs, t8, t75, t76, t77, by simpa [encPs] using Aft.refl hw w0⟩
  · rintro k t H1 ⟨i, x', hik, hs, t8, t75, t76, t77, a⟩
    cases k with
    | zero =>
      have e0 : i = l.length := by omega
      subst e0
      rw [List.take_length] at a
      simp [L74_1, t76, t77]
      exact hQ _ H1 x' (hS t 78 _ (by simp) hs) (by simp [t8]) a
    | succ k =>
      have hi : i < l.length := by omega
      obtain ⟨b, off, c, hyb, hlen, ld, _⟩ := (hy H1 x' _ a).at (i := i) (by simpa using hi)
      simp only [List.getElem_map, List.length_map] at hyb hlen ld
      have e3 : IntKind.i64.wrap ((i : Int) + 1) = ((i + 1 : Nat) : Int) := by rw [w64 _ (by omega)]; omega
      obtain ⟨i1, hi1⟩ : ∃ i1, i1 = i + 1 := ⟨_, rfl⟩
      rw [← hi1] at e3
      obtain ⟨q, hq'⟩ : ∃ q, q = l[i] := ⟨_, rfl⟩
      have hoq : okQ q := by rw [hq']; exact hq _ (List.getElem_mem hi)
      rw [← hq'] at ld
      have st := new_storeA a.wf 222 2 [.bool false, .int .i64 0] (pairR q) rfl rfl (by decide)
      have lo := new_load a.wf 222 2 (pairR q)
      have w2 : (H1.new 222 2 (pairR q)).WF := WF_new a.wf _ _ _
      have a2 := a.beside (H2 := H1.new 222 2 (pairR q)) rfl (by simp) w2 (fun b hb => by simp [show b ≠ H1.next by omega])
      have en : encPs (l.take i1) = encPs (l.take i) ++ encP q := by rw [hi1, List.take_succ_eq_append_getElem hi, encPs_append, hq']; simp [encPs]
      obtain ⟨has, n⟩ := q
      simp only [pairR] at st lo ld
      cases has with
      | false =>
        simp [L74_1, t75, t76, t77, hyb, hi, ld, st, lo, e3]
        refine ⟨k, Nat.lt_succ_self k, i1, x', by omega, ?_, by simp [t8], by simp [t75, hyb], by simp [t76], by simp, ?_⟩
        · repeat (refine hS _ _ _ (by simp) ?_)
          exact hs
        · rw [en, show encPs (l.take i) ++ encP (false, n) = encPs (l.take i) by simp [encP]]
          exact a2
      | true =>
        have hn := hoq rfl
        simp only at hn
        have c1 : IntKind.u64.wrap n = ((n.toNat : Nat) : Int) := by rw [wu64 _ (by omega)]; omega
        have hlen2 : (encPs (l.take i)).length ≤ 10 * l.length := by
          have := encPs_len (l := l.take i) (fun q hq2 => hq q (List.mem_of_mem_take hq2))
          have h3 : (l.take i).length ≤ l.length := by simp; omega
          omega
        obtain ⟨v5, H5, T5, x5, a5⟩ := uint_T a2.wf a2.wr (n := n.toNat) (by omega) (by rw [List.length_append]; omega)
        obtain ⟨nn, hnn⟩ : ∃ nn, nn = n.toNat := ⟨_, rfl⟩
        rw [← hnn] at c1 T5 a5
        simp [L74_1, t8, t75, t76, t77, hyb, hi, ld, st, lo, c1]
        refine goT_of T5 ?_
        simp [t77, e3]
        refine ⟨k, Nat.lt_succ_self k, i1, x5, by omega, ?_, by simp [t8], by simp [t75, hyb], by simp [t76], by simp, ?_⟩
        · repeat (refine hS _ _ _ (by simp) ?_)
          exact hs
        · rw [en]
          have := a2.trans a5
          simp only [encP, if_true]
          rw [← List.append_assoc, ← hnn]
          exact this
def G18 : List LIns := [⟨some 47, .off 6 (.tmp 11), none⟩, ⟨some 48, .load false 1 (.tmp 47), none⟩, ⟨some 49, .move (.tmp 48), none⟩, ⟨some 50, .off 7 (.tmp 11), (some (49, false))⟩, ⟨some 51, .load false 1 (.tmp 50), (some (49, false))⟩, ⟨some 52, .pick (.tmp 49) (.const (.bool true)) (.tmp 51), none⟩, ⟨some 53, .off 1 (.tmp 10), none⟩, ⟨some 54, .load false 1 (.tmp 53), none⟩, ⟨some 55, .build [.bool false, .int .i64 0] [(0, 1, .tmp 52), (1, 1, .tmp 54)], none⟩, ⟨some 56, .off 0 (.tmp 11), none⟩, ⟨some 57, .load false 1 (.tmp 56), none⟩, ⟨some 58, .off 2 (.tmp 10), none⟩, ⟨some 59, .load false 1 (.tmp 58), none⟩, ⟨some 60, .build [.bool false, .int .i64 0] [(0, 1, .tmp 57), (1, 1, .tmp 59)], none⟩, ⟨some 61, .off 1 (.tmp 11), none⟩, ⟨some 62, .load false 1 (.tmp 61), none⟩, ⟨some 63, .off 3 (.tmp 10), none⟩, ⟨some 64, .load false 1 (.tmp 63), none⟩, ⟨some 65, .build [.bool false, .int .i64 0] [(0, 1, .tmp 62), (1, 1, .tmp 64)], none⟩, ⟨some 66, .off 2 (.tmp 11), none⟩, ⟨some 67, .load false 1 (.tmp 66), none⟩, ⟨some 68, .move (.tmp 67), none⟩, ⟨some 69, .off 3 (.tmp 11), (some (68, false))⟩, ⟨some 70, .load false 1 (.tmp 69), (some (68, false))⟩, ⟨some 71, .pick (.tmp 68) (.const (.bool true)) (.tmp 70), none⟩, ⟨some 72, .off 4 (.tmp 10), none⟩, ⟨some 73, .load false 1 (.tmp 72), none⟩, ⟨some 74, .build [.bool false, .int .i64 0] [(0, 1, .tmp 71), (1, 1, .tmp 73)], none⟩, ⟨some 75, .buildSlice 222 2 4 [.bool false, .int .i64 0] [(0, 2, .tmp 55), (2, 2, .tmp 60), (4, 2, .tmp 65), (6, 2, .tmp 74)], none⟩, ⟨some 76, .len (.tmp 75), none⟩, ⟨some 77, .move (.const (.int .i64 0)), none⟩]
theorem L74_2_eq : L74_2 = .seq (.region [⟨some 33, .bin .lss (.tmp 32) (.tmp 31), none⟩]) (.seq (.cond (.tmp 33) (.skip) (.exit 0)) (.seq (.block 1 (.seq (.region [⟨some 34, .idx 6 (.tmp 30) (.tmp 32), none⟩, ⟨some 35, .load true 6 (.tmp 34), none⟩, ⟨some 10, .new 113 6 [.int .i64 0, .int .i64 0, .int .i64 0, .int .i64 0, .int .i64 0, .int .i64 0], none⟩, ⟨none, .store 6 (.tmp 10) (.tmp 35), none⟩]) (.seq (.region [⟨some 37, .off 0 (.tmp 10), none⟩, ⟨some 38, .load false 1 (.tmp 37), none⟩, ⟨some 39, .call 114 [.tmp 38], none⟩, ⟨some 36, .move (.tmp 39), none⟩, ⟨some 40, .extract (.tmp 36) 0, none⟩, ⟨some 41, .extract (.tmp 36) 1, none⟩, ⟨some 11, .new 219 8 [.bool false, .bool false, .bool false, .bool false, .bool false, .bool false, .bool false, .bool false], none⟩, ⟨none, .store 8 (.tmp 11) (.tmp 40), none⟩, ⟨some 12, .move (.tmp 41), none⟩]) (.seq (.region [⟨some 42, .move (.tmp 8), none⟩, ⟨some 43, .off 0 (.tmp 10), none⟩, ⟨some 44, .load false 1 (.tmp 43), none⟩, ⟨some 45, .conv .u64 (.tmp 44), none⟩, ⟨some 46, .call 33 [.tmp 42, .tmp 45], none⟩]) (.seq (.seq (.region G18) (.block 2 (.loop L74_1))) (.seq (.region [⟨some 89, .off 4 (.tmp 11), none⟩, ⟨some 90, .load false 1 (.tmp 89), none⟩]) (.cond (.tmp 90) (.region [⟨some 91, .move (.tmp 8), none⟩, ⟨some 92, .off 5 (.tmp 10), none⟩, ⟨some 93, .load false 1 (.tmp 92), none⟩, ⟨some 94, .call 72 [.tmp 91, .tmp 93], none⟩]) (.skip)))))))) (.region [⟨some 95, .bin .add (.tmp 32) (.const (.int .i64 1)), none⟩, ⟨some 32, .move (.tmp 95), none⟩]))) := rfl
structure Kp (t t' : Tm) : Prop where
  k0 : t' 0 = t 0
  k1 : t' 1 = t 1
  k8 : t' 8 = t 8
  k10 : t' 10 = t 10
  k11 : t' 11 = t 11
  k30 : t' 30 = t 30
  k31 : t' 31 = t 31
  k32 : t' 32 = t 32
theorem Kp.keeps (t : Tm) : Keeps (Kp t) := by
  intro t' d v hd h
  obtain ⟨h0, h1, h8, h10, h11, h30, h31, h32⟩ := h
  rcases hd with rfl | rfl | rfl | rfl | rfl | rfl | rfl | rfl | rfl | rfl | rfl | rfl | rfl <;>
    exact ⟨by simp [h0], by simp [h1], by simp [h8], by simp [h10], by simp [h11], by simp [h30], by simp [h31], by simp [h32]⟩
def flatP (l : List (Bool × Int)) : List Value := (l.map pairR).flatten
theorem g18_w {H : Heap} {t : Tm} {bx bs : Nat} {x : In} {s : Sh} (t10 : t 10 = ptr bx) (t11 : t 11 = ptr bs) (lx : ∀ j, H.load ⟨bx, j, none⟩ = (rowI x)[j]?) (ls : ∀ j, H.load ⟨bs, j, none⟩ = (rowS s)[j]?) {K : Tm → Heap → Prop}
    (hK : ∀ t' : Tm, Kp t t' → t' 75 = sl H.next 4 → t' 76 = iv (4 : Nat) → t' 77 = iv (0 : Nat) → K t' (rdy (H.new 222 2 (flatP (pairs s x))))) : wpO Tryz.prog G18 K t (rdy H) := by
  have z8 : zerosA [.bool false, .int .i64 0] 8 = [.bool false, iv 0, .bool false, iv 0, .bool false, iv 0, .bool false, iv 0] := rfl
  simp only [rowI] at lx
  simp only [rowS] at ls
  unfold G18
  cases h1 : s.one <;> cases h2 : s.c <;>
    (simp [t10, t11, lx, ls, h1, h2, z8]
     have e : flatP (pairs s x) = [.bool (s.one || s.two), iv x.op, .bool s.a, iv x.a, .bool s.b, iv x.b, .bool (s.c || s.cell), iv x.c] := rfl
     simp only [h1, h2, Bool.true_or, Bool.false_or] at e
     have hK' := hK
     rw [e] at hK'
     exact hK' _ ⟨by simp, by simp, by simp, by simp [t10], by simp [t11], by simp, by simp, by simp⟩ (by simp) (by simp) (by simp))
theorem oks {x : In} {cells long : Int} (h : oneV x cells long = 0) : (∀ q ∈ pairs (shp x.kind) x, okQ q) ∧ 1 ≤ x.kind ∧ x.kind ≤ 13 := by
  unfold oneV at h
  cases hv : valid x.kind with
  | false => rw [if_pos hv] at h; cases h
  | true =>
    rw [if_neg (by simp [hv])] at h
    cases h2 : c2V (shp x.kind) x with
    | true => rw [if_pos h2] at h; cases h
    | false =>
      rw [if_neg (by simp [h2])] at h
      cases h3 : c3V (shp x.kind) x with
      | true => rw [if_pos h3] at h; cases h
      | false =>
        rw [if_neg (by simp [h3])] at h
        cases h4 : c4V (shp x.kind) x with
        | true => rw [if_pos h4] at h; cases h
        | false =>
          rw [if_neg (by simp [h4])] at h
          cases h5 : c5V (shp x.kind) x cells with
          | true => rw [if_pos h5] at h; cases h
          | false =>
            have hr : 1 ≤ x.kind ∧ x.kind ≤ 13 := by simpa [valid] using hv
            refine ⟨?_, hr⟩
            obtain ⟨s, hs⟩ : ∃ s, s = shp x.kind := ⟨_, rfl⟩
            rw [← hs] at h2 h3 h5 ⊢
            unfold c2V at h2
            unfold c3V badR at h3
            unfold c5V at h5
            simp only [Bool.or_eq_false_iff, Bool.and_eq_false_imp, decide_eq_false_iff_not] at h2 h3 h5
            intro q hq
            simp only [pairs, List.mem_cons, List.mem_nil_iff, or_false] at hq
            rcases hq with rfl | rfl | rfl | rfl <;> intro hh <;> simp only at hh ⊢
            · simp only [Bool.or_eq_true] at hh
              rcases hh with g | g
              · have := h2.2 g; omega
              · have := h2.1 g; omega
            · have := h3.1.1 hh; omega
            · have := h3.1.2 hh; omega
            · simp only [Bool.or_eq_true] at hh
              rcases hh with g | g
              · have := h3.2 g; omega
              · have := h5 g
                by_cases h44 : 4 < cells
                · rw [if_pos h44] at this; omega
                · rw [if_neg h44] at this; omega
end Go.Proofs.YtnomffikflfilaaGreat.E8
namespace Go.Proofs.YtnomffikflfilaaGreat.E8
open I8
open Go.Ot Go.RowKit
set_option linter.unusedSimpArgs false
set_option linter.unusedVariables false
def encV (l : List In) : List Nat := encU l.length ++ encAll l
def encS (l : List In) (cells : Int) : List Nat := if (checkV l cells).2 = 0 then encV l else []
theorem encAll_append (a b : List In) : encAll (a ++ b) = encAll a ++ encAll b := by simp [encAll]
theorem encIns_len {x : In} {cells long : Int} (h : oneV x cells long = 0) (hk : okI x.k) : (encIns x).length ≤ 60 := by
  obtain ⟨hq, h1, h2⟩ := oks h
  have e1 := encU_len 9 x.kind.toNat (by omega)
  have e2 := encPs_len hq
  have e3 : (pairs (shp x.kind) x).length = 4 := rfl
  have hz := zz_lt hk
  have e4 := encU_len 9 (zz x.k) (by omega)
  unfold encIns
  rw [List.length_append, List.length_append]
  split
  · omega
  · simp; omega
theorem encAll_len {l : List In} {cells long : Int} (h : ∀ x ∈ l, oneV x cells long = 0 ∧ okI x.k) : (encAll l).length ≤ 60 * l.length := by
  induction l with
  | nil => simp [encAll]
  | cons a l ih =>
    have h1 := ih (fun x hx => h x (by simp [hx]))
    have h2 := h a (by simp)
    have h3 := encIns_len h2.1 h2.2
    have e : encAll (a :: l) = encIns a ++ encAll l := by simp [encAll]
    rw [e, List.length_append, List.length_cons]; omega
theorem fst_none : ∀ (cells long : Int) (l : List In) (i : Nat), fstBad cells long l i = none → ∀ x ∈ l, oneV x cells long = 0
  | cells, long, [], i, _, x, hx => by cases hx
  | cells, long, a :: l, i, h, x, hx => by
    simp only [fstBad] at h
    split at h
    · rename_i h0
      rcases List.mem_cons.1 hx with rfl | hx
      · exact h0
      · exact fst_none cells long l (i + 1) h x hx
    · cases h
theorem fst_some : ∀ (cells long : Int) (l : List In) (i j : Nat) (e : Int), fstBad cells long l i = some (j, e) → e ≠ 0
  | cells, long, [], i, j, e, h => by cases h
  | cells, long, a :: l, i, j, e, h => by
    simp only [fstBad] at h
    split at h
    · exact fst_some cells long l (i + 1) j e h
    · rename_i h0
      simp only [Option.some.injEq, Prod.mk.injEq] at h
      rw [← h.2]; exact h0
theorem check_ok {l : List In} {cells : Int} (h : (checkV l cells).2 = 0) : (∀ x ∈ l, oneV x cells l.length = 0) ∧ 0 < l.length ∧ l.length ≤ 600 := by
  unfold checkV at h
  by_cases h0 : l.length = 0 ∨ 600 < l.length
  · rw [if_pos h0] at h; cases h
  · rw [if_neg h0] at h
    cases hf : fstBad cells l.length l 0 with
    | none => exact ⟨fst_none _ _ _ _ hf, by omega, by omega⟩
    | some p =>
      obtain ⟨i, e⟩ := p
      rw [hf] at h
      exact absurd h (fst_some _ _ _ _ _ _ hf)
def InvEn (H : Heap) (p : Nat) (xl : Value) (l : List In) (cells : Int) (k : Nat) (t : Tm) (H1 : Heap) : Prop :=
  ∃ (i : Nat) (x' : Value), i + k = l.length ∧ t 0 = xl ∧ t 1 = iv cells ∧ t 8 = ptr p ∧ t 30 = xl ∧ t 31 = iv (l.length : Nat) ∧ t 32 = iv i ∧ AF H H1 p (.slice none 0 0) (encU l.length ++ encAll (l.take i)) x'
theorem encode_T {H : Heap} (hw : H.WF) {xl : Value} {l : List In} (hx : Rws H 6 xl (l.map rowI)) (hk : ∀ a ∈ l, okI a.k) (cells : Int) :
    ∃ v H', T Tryz.prog 74 [xl, iv cells] H v H' ∧ ∃ y, v = .tuple #[y, iv (checkV l cells).2] ∧ OG H H' (.slice none 0 0) (encS l cells) y := by
  refine T_by hm light74 ?_
  obtain ⟨xa, xc, hxl⟩ := hx.len
  rw [List.length_map] at hxl
  obtain ⟨v1, H1, T1, rfl, s1⟩ := check_T hw hx cells
  have w1 := T1.grow.wf hw
  have n1 := T1.grow.next
  have o1 : ∀ b, b < H.next → H1.blk b = H.blk b := fun b hb => s1 b hb (by simp)
  obtain ⟨e, he⟩ : ∃ e, e = (checkV l cells).2 := ⟨_, rfl⟩
  obtain ⟨w, hwc⟩ : ∃ w, w = (checkV l cells).1 := ⟨_, rfl⟩
  rw [← he, ← hwc] at T1
  rw [← he]
  unfold encS
  rw [← he]
  rw [hxl] at T1 ⊢
  by_cases h0 : e = 0
  case neg =>
    have h0' : (e != 0) = true := by simp [h0]
    rw [if_neg h0]
    simp [L74]
    refine goT_of T1 ?_
    simp [h0', packV]
    have := Og.refl w1 (Own.nil H1 5 1)
    exact ⟨T1.1, n1, w1, by simpa [bc] using Own.nil H1 5 1, fun b hb _ => o1 b hb, fun b hb => by cases hb⟩
  rw [if_pos h0]
  rw [he] at h0
  obtain ⟨hok, hlp, hlm⟩ := check_ok h0
  rw [← he] at h0
  have h0' : (e != 0) = false := by simp [h0]
  have W0 := new_WR w1
  have w0 : (H1.new 150 1 [.slice none 0 0]).WF := WF_new w1 _ _ _
  obtain ⟨H2, hH2⟩ : ∃ H2, H2 = H1.new 150 1 [.slice none 0 0] := ⟨_, rfl⟩
  have T2 := new_T w1
  rw [← hH2] at T2 W0 w0
  have b2 : H2.base = H.base := by rw [hH2]; exact T1.1
  have n2 : H2.next = H1.next + 1 := by rw [hH2]; rfl
  have o2 : ∀ b, b < H.next → H2.blk b = H.blk b := fun b hb => by rw [hH2]; simp [show b ≠ H1.next by omega]; exact o1 b hb
  obtain ⟨v3, H3, T3, x3, a3⟩ := uint_T w0 W0 (n := l.length) (by omega) (by simp)
  have c1 : IntKind.u64.wrap (l.length : Int) = (l.length : Int) := wu64 _ (by omega)
  rw [List.nil_append] at a3
  simp [L74]
  refine goT_of T1 ?_
  simp [h0']
  refine goT_of T2 ?_
  simp [c1]
  refine goT_of T3 ?_
  simp
  rw [← hxl]
  refine loop_at (InvEn H2 H1.next xl l cells) l.length ?_ ?_
  · exact ⟨0, x3, by omega, by simp [hxl], by simp, by simp, by simp, by simp, by simp, by simpa [encAll] using a3⟩
  · rintro k t G ⟨i, x', hik, t0, t1, t8, t30, t31, t32, a⟩
    have nG := a.next
    have oG : ∀ b, b < H.next → G.blk b = H.blk b := fun b hb => (a.same b (by omega) (by omega) (by simp)).trans (o2 b hb)
    have hlen : ∀ i, (encAll (l.take i)).length ≤ 60 * 600 := by
      intro i
      have := encAll_len (l := l.take i) (cells := cells) (long := l.length) (fun x hx => ⟨hok x (List.mem_of_mem_take hx), hk x (List.mem_of_mem_take hx)⟩)
      have h3 : (l.take i).length ≤ 600 := by simp; omega
      exact Nat.le_trans this (Nat.mul_le_mul_left _ h3)
    have hul := encU_len 9 l.length (by omega)
    cases k with
    | zero =>
      have ei : i = l.length := by omega
      subst ei
      have hl := hlen l.length
      rw [List.take_length] at a hl
      have hbbl : (encU l.length ++ encAll l).length ≤ 100000 := by rw [List.length_append]; omega
      have hev : encV l = encU l.length ++ encAll l := rfl
      rw [hev]
      obtain ⟨bb, hbb⟩ : ∃ bb, bb = encU l.length ++ encAll l := ⟨_, rfl⟩
      rw [← hbb] at a hbbl ⊢
      obtain ⟨v4, H4, T4, o4, f4, s4⟩ := bytes_T a.wf a.wr (by omega)
      obtain ⟨va, hva⟩ := o4.len
      rw [L74_2_eq]
      simp [t31, t32]
      refine goT_of (by rw [t8]; exact T4) ?_
      subst hva
      simp [packV, h0]
      have n4 := T4.grow.next
      refine ⟨T4.1.trans (a.base.trans b2), by omega, T4.grow.wf a.wf, o4, ?_, ?_⟩
      · intro b hb _
        rw [s4 b (by omega) (by simp)]
        exact oG b hb
      · intro b hb
        have := f4 b hb
        exact .inr (by omega)
    | succ k =>
      have hi : i < l.length := by omega
      obtain ⟨b, off, c, hxs, hrl, ld, _⟩ := (hx.keep hw (a.base.trans b2) oG).at (i := i) (by simpa using hi)
      simp only [List.getElem_map, List.length_map] at hxs hrl ld
      have e3 : IntKind.i64.wrap ((i : Int) + 1) = ((i + 1 : Nat) : Int) := by rw [w64 _ (by omega)]; omega
      obtain ⟨i1, hi1⟩ : ∃ i1, i1 = i + 1 := ⟨_, rfl⟩
      rw [← hi1] at e3
      obtain ⟨q, hq⟩ : ∃ q, q = l[i] := ⟨_, rfl⟩
      have hmem : q ∈ l := by rw [hq]; exact List.getElem_mem hi
      have hqo := hok q hmem
      have hqk := hk q hmem
      rw [← hq] at ld
      obtain ⟨okp, k1, k2⟩ := oks hqo
      have en : encAll (l.take i1) = encAll (l.take i) ++ encIns q := by rw [hi1, List.take_succ_eq_append_getElem hi, encAll_append, hq]; simp [encAll]
      have hli := hlen i
      have stx := new_storeA a.wf 113 6 [.int .i64 0, .int .i64 0, .int .i64 0, .int .i64 0, .int .i64 0, .int .i64 0] (rowI q) rfl rfl (by decide)
      have lx4 := new_load a.wf 113 6 (rowI q)
      obtain ⟨H4, hH4⟩ : ∃ H4, H4 = G.new 113 6 (rowI q) := ⟨_, rfl⟩
      have w4 : H4.WF := by rw [hH4]; exact WF_new a.wf _ _ _
      have n4 : H4.next = G.next + 1 := by rw [hH4]; rfl
      have a4 : AF H2 H4 H1.next (.slice none 0 0) (encU l.length ++ encAll (l.take i)) x' := a.beside (by rw [hH4]; rfl) (by omega) w4 (fun b hb => by rw [hH4]; simp [show b ≠ G.next by omega])
      rw [← hH4] at stx lx4
      have x'lt : ∀ b, blkOf x' = some b → b < G.next := fun b hb => a.wr.own.lt a.wf hb
      have offx : Off H4 H1.next x' G.next := ⟨by omega, by omega, fun e => by have := x'lt _ e; omega⟩
      obtain ⟨v5, H5, T5, rfl, s5⟩ := shape_T w4 q.kind
      have w5 := T5.grow.wf w4
      have n5 := T5.grow.next
      obtain ⟨sh, hsh⟩ : ∃ sh, sh = shp q.kind := ⟨_, rfl⟩
      obtain ⟨va, hva⟩ : ∃ va, va = valid q.kind := ⟨_, rfl⟩
      rw [← hsh, ← hva] at T5
      have st6 := new_storeA w5 219 8 [.bool false, .bool false, .bool false, .bool false, .bool false, .bool false, .bool false, .bool false] (rowS sh) rfl rfl (by decide)
      have ls6 := new_load w5 219 8 (rowS sh)
      obtain ⟨H6, hH6⟩ : ∃ H6, H6 = H5.new 219 8 (rowS sh) := ⟨_, rfl⟩
      have w6 : H6.WF := by rw [hH6]; exact WF_new w5 _ _ _
      have n6 : H6.next = H5.next + 1 := by rw [hH6]; rfl
      rw [← hH6] at st6 ls6
      have k6 : ∀ b, b < H4.next → H6.blk b = H4.blk b := fun b hb => by rw [hH6]; simp [show b ≠ H5.next by omega]; exact s5 b hb (by simp)
      have b6 : H6.base = H4.base := by rw [hH6]; exact T5.1
      have a6 := a4.beside b6 (by omega) w6 k6
      have lx6 : ∀ j, H6.load ⟨G.next, j, none⟩ = (rowI q)[j]? := fun j => by rw [load_frame b6 (k6 _ (by omega))]; exact lx4 j
      have offx6 : Off H6 H1.next x' G.next := ⟨by omega, offx.2⟩
      have offs6 : Off H6 H1.next x' H5.next := ⟨by omega, by omega, fun e => by have := x'lt _ e; omega⟩
      have ck : IntKind.u64.wrap q.kind = ((q.kind.toNat : Nat) : Int) := by rw [wu64 _ (by omega)]; omega
      obtain ⟨v7, H7, T7, x7, a7⟩ := uint_T a6.wf a6.wr (n := q.kind.toNat) (by omega) (by rw [List.length_append]; omega)
      obtain ⟨kn, hkn⟩ : ∃ kn, kn = q.kind.toNat := ⟨_, rfl⟩
      rw [← hkn] at ck T7 a7
      obtain ⟨offx7, kx7⟩ := offx6.af a7
      obtain ⟨offs7, ks7⟩ := offs6.af a7
      have lx7 : ∀ j, H7.load ⟨G.next, j, none⟩ = (rowI q)[j]? := fun j => by rw [load_frame a7.base kx7]; exact lx6 j
      have ls7 : ∀ j, H7.load ⟨H5.next, j, none⟩ = (rowS sh)[j]? := fun j => by rw [load_frame a7.base ks7]; exact ls6 j
      obtain ⟨H8, hH8⟩ : ∃ H8, H8 = H7.new 222 2 (flatP (pairs sh q)) := ⟨_, rfl⟩
      have w8 : H8.WF := by rw [hH8]; exact WF_new a7.wf _ _ _
      have n8 : H8.next = H7.next + 1 := by rw [hH8]; rfl
      have a78 := a7.beside (H2 := H8) (by rw [hH8]; rfl) (by omega) w8 (fun b hb => by rw [hH8]; simp [show b ≠ H7.next by omega])
      have x7lt : ∀ b, blkOf x7 = some b → b < H7.next := fun b hb => a7.wr.own.lt a7.wf hb
      have offx8 : Off H8 H1.next x7 G.next := ⟨by have := offx7.1; omega, offx7.2⟩
      have offs8 : Off H8 H1.next x7 H5.next := ⟨by have := offs7.1; omega, offs7.2⟩
      have offy8 : Off H8 H1.next x7 H7.next := ⟨by omega, by have := offx7.1; omega, fun e => by have := x7lt _ e; omega⟩
      have rows8 : H8.blk H7.next = some ⟨222, 2, flatP (pairs sh q)⟩ := by rw [hH8]; simp
      have hB8 : ¬ H7.next < H8.B := by rw [hH8]; exact a7.wf.next_ge
      obtain ⟨bs7, hbs7⟩ : ∃ bs7, bs7 = encU l.length ++ encAll (l.take i) ++ encU kn := ⟨_, rfl⟩
      rw [← hbs7] at a7 a78
      have hbl : bs7.length ≤ 100000 := by
        have := encU_len 9 kn (by omega)
        rw [hbs7]; simp only [List.length_append]; omega
      rw [L74_2_eq]
      have lk4 : H4.load ⟨G.next, 0, none⟩ = some (iv q.kind) := lx4 0
      have lk6 : H6.load ⟨G.next, 0, none⟩ = some (iv q.kind) := lx6 0
      simp [t30, t31, t32, hxs, hi, ld, stx, lk4]
      refine goT_of T5 ?_
      simp [st6, t8, lk6, ck]
      refine goT_of T7 ?_
      simp
      refine g18_w (H := H7) (bx := G.next) (bs := H5.next) (x := q) (s := sh) (by simp) (by simp) lx7 ls7 (fun t' kp t75 t76 t77 => ?_)
      rw [← hH8]
      obtain ⟨p0, p1, p8, p10, p11, p30, p31, p32⟩ := kp
      simp at p0 p1 p8 p10 p11 p30 p31 p32
      simp
      refine pairs_w (H := H8) (p := H1.next) (x0 := x7) (bs := bs7) (l := pairs sh q) (S := Kp t') (Kp.keeps t') ?_ (by rw [hsh]; exact okp) ?_ ⟨rfl, rfl, rfl, rfl, rfl, rfl, rfl, rfl⟩ (p8.trans t8) t75 t76 t77 a78.wr w8 (fun t2 H9 x9 kp2 q8 a9 => ?_)
      · have : (pairs sh q).length = 4 := rfl
        omega
      · intro H9 x9 bs9 a9
        obtain ⟨off9, k9⟩ := offy8.af a9
        have o9 : Own H9 222 2 4 (flatP (pairs sh q)) (sl H7.next 4) := Own.mk rfl (by rw [B_eq a9.base]; exact hB8) (by rw [k9]; exact rows8)
        exact Own.rws (ety := 222) (l := (pairs sh q).map pairR) (by intro r hr; obtain ⟨z, _, rfl⟩ := List.mem_map.1 hr; rfl) o9
      obtain ⟨r0, r1, r8, r10, r11, r30, r31, r32⟩ := kp2
      obtain ⟨offx9, kx9⟩ := offx8.af a9
      obtain ⟨offs9, ks9⟩ := offs8.af a9
      have kx8 : H8.blk G.next = H7.blk G.next := by rw [hH8]; simp [show G.next ≠ H7.next by have := offx7.1; omega]
      have ks8 : H8.blk H5.next = H7.blk H5.next := by rw [hH8]; simp [show H5.next ≠ H7.next by have := offs7.1; omega]
      have b97 : H9.base = H7.base := a9.base.trans (by rw [hH8]; rfl)
      have lk9 : H9.load ⟨G.next, 5, none⟩ = some (iv q.k) := by rw [load_frame b97 (kx9.trans kx8)]; exact lx7 5
      have ls9 : H9.load ⟨H5.next, 4, none⟩ = some (.bool sh.k) := by rw [load_frame b97 (ks9.trans ks8)]; exact ls7 4
      have aAll := (a6.trans a78).trans a9
      have hpl := encPs_len okp
      rw [← hsh] at hpl
      have hp4 : (pairs sh q).length = 4 := rfl
      have g10 : t2 10 = ptr G.next := r10.trans p10
      have g11 : t2 11 = ptr H5.next := r11.trans p11
      have g8 : t2 8 = ptr H1.next := q8
      have g0 : t2 0 = xl := (r0.trans p0).trans t0
      have g1 : t2 1 = iv cells := (r1.trans p1).trans t1
      have g30 : t2 30 = xl := (r30.trans p30).trans t30
      have g31 : t2 31 = iv (l.length : Nat) := (r31.trans p31).trans t31
      have g32 : t2 32 = iv i := (r32.trans p32).trans t32
      cases hkk : sh.k with
      | false =>
        rw [hkk] at ls9
        simp [g11, ls9, g32, e3]
        rw [← hxs]
        refine ⟨k, Nat.lt_succ_self k, i1, x9, by omega, by simp [g0], by simp [g1], by simp [g8], by simp [g30], by simp [g31], by simp, ?_⟩
        have ei : encIns q = encU kn ++ encPs (pairs sh q) := by unfold encIns; rw [← hsh, ← hkn, hkk]; simp
        rw [en, ei]
        have := aAll
        rw [hbs7] at this
        simp only [List.append_assoc] at this ⊢
        exact this
      | true =>
        rw [hkk] at ls9
        obtain ⟨v10, H10, T10, x10, a10⟩ := int_T aAll.wf aAll.wr hqk (by rw [List.length_append]; omega)
        simp [g8, g10, g11, ls9, lk9]
        refine goT_of T10 ?_
        simp [g32, e3]
        rw [← hxs]
        refine ⟨k, Nat.lt_succ_self k, i1, x10, by omega, by simp [g0], by simp [g1], by simp [g8], by simp [g30], by simp [g31], by simp, ?_⟩
        have ei : encIns q = encU kn ++ encPs (pairs sh q) ++ encU (zz q.k) := by unfold encIns; rw [← hsh, ← hkn, hkk]; simp
        rw [en, ei]
        have := aAll.trans a10
        rw [hbs7] at this
        simp only [List.append_assoc] at this ⊢
        exact this
end Go.Proofs.YtnomffikflfilaaGreat.E8
