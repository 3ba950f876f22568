/-
  Part W: heaps, rows of cells, appends.
-/
import Derived.Test.YtfmcnojojknkfaaOtV
set_option linter.unusedVariables false
set_option linter.unusedSimpArgs false
namespace Go.Ot
open Go.RowKit

theorem Heap.eq_of {H H' : Heap} (hb : H.base = H'.base) (hn : H.next = H'.next) (hk : ∀ b, H.blk b = H'.blk b) : H = H' := by
  cases H; cases H'; simp only at hb hn hk; subst hb; subst hn
  congr
  funext b; exact hk b
theorem put_put (H : Heap) (b : Nat) (c1 c2 : List Value) : (H.put b c1).put b c2 = H.put b c2 := by
  refine Heap.eq_of rfl rfl fun x => ?_
  simp only [blk_put]
  by_cases h : x = b
  · subst h; simp; cases H.blk x <;> rfl
  · simp [h]
theorem put_self {H : Heap} {b : Nat} {k : Blk} (h : H.blk b = some k) : H.put b k.cells = H := by
  refine Heap.eq_of rfl rfl fun x => ?_
  simp only [blk_put]
  by_cases hx : x = b
  · subst hx; simp [h]
  · simp [hx]
theorem new_put (H : Heap) (ty sz : Nat) (c c' : List Value) : (H.new ty sz c).put H.next c' = H.new ty sz c' := by
  refine Heap.eq_of rfl rfl fun x => ?_
  simp only [blk_put, blk_new]
  by_cases hx : x = H.next
  · subst hx; simp
  · simp [hx]
theorem load_at {H : Heap} {b off : Nat} {k : Blk} (hB : ¬ b < H.B) (hk : H.blk b = some k) (hz : 0 < k.sz := by first | exact Nat.succ_pos _ | assumption | (simp; done) | (simp; omega)) : H.load ⟨b, off, none⟩ = k.cells[off]? := load_own hB hk
theorem loadN_at' {H : Heap} {b off : Nat} {k : Blk} (hB : ¬ b < H.B) (hk : H.blk b = some k) (hz : 0 < k.sz) : ∀ {n i : Nat}, off + i + n ≤ k.cells.length → H.loadN ⟨b, off, none⟩ i n = some ((k.cells.drop (off + i)).take n)
  | 0, i, h => by simp [Heap.loadN]
  | n + 1, i, h => by
    have hlt : off + i < k.cells.length := by omega
    simp only [Heap.loadN, add_own]
    rw [load_at hB hk, List.getElem?_eq_getElem hlt, Option.bind_some, loadN_at' hB hk hz (by omega), Option.map_some]
    rw [List.drop_eq_getElem_cons hlt, List.take_succ_cons]
    rfl
theorem loadN_at {H : Heap} {b off : Nat} {k : Blk} (hB : ¬ b < H.B) (hk : H.blk b = some k) {n i : Nat} (h : off + i + n ≤ k.cells.length) (hz : 0 < k.sz := by first | exact Nat.succ_pos _ | assumption | (simp; done) | (simp; omega)) : H.loadN ⟨b, off, none⟩ i n = some ((k.cells.drop (off + i)).take n) := loadN_at' hB hk hz h
theorem storeN_at' : ∀ {vs : List Value} {H : Heap} {b off i : Nat} {k : Blk}, ¬ b < H.B → H.blk b = some k → 0 < k.sz → off + i + vs.length ≤ k.cells.length →
    Heap.storeN ⟨b, off, none⟩ i vs H = some (H.put b (k.cells.take (off + i) ++ vs ++ k.cells.drop (off + i + vs.length)))
  | [], H, b, off, i, k, hB, hk, hz, h => by simp [Heap.storeN, put_self hk]
  | v :: vs, H, b, off, i, k, hB, hk, hz, h => by
    simp only [List.length_cons] at h
    have hlt : off + i < k.cells.length := by omega
    simp only [Heap.storeN, add_own]
    rw [store_own hB hk, if_pos hlt, Option.bind_some]
    rw [storeN_at' (H := H.put b (k.cells.set (off + i) v)) (k := ⟨k.ty, k.sz, k.cells.set (off + i) v⟩) (by simpa using hB) (by simp [hk]) hz (by simp; omega), put_put]
    congr 2
    simp only [List.length_cons]
    rw [← Nat.add_assoc off i 1, List.take_succ_eq_append_getElem (by simpa using hlt)]
    simp
    rw [List.take_set_of_le (Nat.le_refl _), List.drop_set_of_lt (by omega), show off + i + 1 + vs.length = off + i + (vs.length + 1) by omega]
theorem storeN_at {vs : List Value} {H : Heap} {b off i : Nat} {k : Blk} (hB : ¬ b < H.B) (hk : H.blk b = some k) (h : off + i + vs.length ≤ k.cells.length) (hz : 0 < k.sz := by first | exact Nat.succ_pos _ | assumption | (simp; done) | (simp; omega)) :
    Heap.storeN ⟨b, off, none⟩ i vs H = some (H.put b (k.cells.take (off + i) ++ vs ++ k.cells.drop (off + i + vs.length))) := storeN_at' hB hk hz h
theorem srcCells_slice (H : Heap) (sz : Nat) (a : Addr) (m c : Nat) : srcCells H sz (.slice (some a) m c) = (H.loadN a 0 (m * sz)).map fun xs => (m, xs) := rfl
theorem srcCells_nil (H : Heap) (sz c : Nat) : srcCells H sz (.slice none 0 c) = some (0, []) := rfl
theorem srcCells_string (H : Heap) (s : ByteArray) : srcCells H 1 (.string s) = some (s.size, bytesV s) := rfl
theorem append_own {H : Heap} {ety sz bytes b off n m : Nat} {cells xs : List Value} {y : Value} (hk : H.blk b = some ⟨ety, sz, cells⟩) (hs : srcCells H sz y = some (m, xs)) (hm : m ≠ 0)
    (hb : (n + m) * bytes ≤ 140737488355328) (hn : n * sz ≤ cells.length) :
    sAppend H ety sz bytes (.slice (some ⟨b, off, none⟩) n 0) y = some (.slice (some ⟨H.next, 0, none⟩) (n + m) 0, (H.kill b).new ety sz (cells.take (n * sz) ++ xs)) := by
  simp [sAppend, hs, hm, hb, hk, hn]
theorem append_nil {H : Heap} {ety sz bytes m : Nat} {xs : List Value} {y : Value} (hs : srcCells H sz y = some (m, xs)) (hm : m ≠ 0) (hb : m * bytes ≤ 140737488355328) :
    sAppend H ety sz bytes (.slice none 0 0) y = some (.slice (some ⟨H.next, 0, none⟩) m 0, H.new ety sz xs) := by
  simp [sAppend, hs, hm, hb]
theorem append_none {H : Heap} {ety sz bytes : Nat} {a : Option Addr} {n c : Nat} {xs : List Value} {y : Value} (hs : srcCells H sz y = some (0, xs)) (hx : a.isSome = true ∨ (n = 0 ∧ c = 0)) :
    sAppend H ety sz bytes (.slice a n c) y = some (.slice a n c, H) := by
  cases a with
  | none => rcases hx with h | ⟨rfl, rfl⟩
            · cases h
            · simp [sAppend, hs]
  | some a => simp [sAppend, hs]
/-- One more, at the end of a row of its own. -/
theorem append_one {H : Heap} {ety bytes b off n c : Nat} {cells : List Value} {y : Nat} {v : Value} (hk : H.blk b = some ⟨ety, 1, cells⟩) (hy : ¬ y < H.B) (hv : H.blk y = some ⟨ety, 1, [v]⟩)
    (hb : (n + 1) * bytes ≤ 140737488355328) (hn : n ≤ cells.length) :
    sAppend H ety 1 bytes (.slice (some ⟨b, off, none⟩) n 0) (.slice (some ⟨y, 0, none⟩) 1 c) = some (.slice (some ⟨H.next, 0, none⟩) (n + 1) 0, (H.kill b).new ety 1 (cells.take n ++ [v])) := by
  have hs : srcCells H 1 (.slice (some ⟨y, 0, none⟩) 1 c) = some (1, [v]) := by
    rw [srcCells_slice, loadN_at hy hv (by simp)]; simp
  rw [append_own hk hs (by omega) hb (by omega)]
  simp
theorem append_one_nil {H : Heap} {ety bytes c : Nat} {y : Nat} {v : Value} (hy : ¬ y < H.B) (hv : H.blk y = some ⟨ety, 1, [v]⟩) (hb : bytes ≤ 140737488355328) :
    sAppend H ety 1 bytes (.slice none 0 0) (.slice (some ⟨y, 0, none⟩) 1 c) = some (.slice (some ⟨H.next, 0, none⟩) 1 0, H.new ety 1 [v]) := by
  have hs : srcCells H 1 (.slice (some ⟨y, 0, none⟩) 1 c) = some (1, [v]) := by
    rw [srcCells_slice, loadN_at hy hv (by simp)]; simp
  rw [append_nil hs (by omega) (by omega)]
theorem load_put (H : Heap) (b : Nat) (cs : List Value) (c off : Nat) : (H.put b cs).load ⟨c, off, none⟩ = if c < H.B then H.load ⟨c, off, none⟩ else if c = b then (H.blk b).bind (fun k => if 0 < k.sz then cs[off]? else none) else H.load ⟨c, off, none⟩ := by
  by_cases h : c < H.B
  · simp [Heap.load, h]; rfl
  · by_cases h2 : c = b
    · subst h2; simp only [Heap.load, h, if_false, B_put, blk_put, if_true]
      cases H.blk c <;> simp
    · simp [Heap.load, h, h2]
theorem load_new (H : Heap) (ty sz : Nat) (cs : List Value) (c off : Nat) (hz : 0 < sz := by first | exact Nat.succ_pos _ | assumption | (simp; done) | (simp; omega)) : (H.new ty sz cs).load ⟨c, off, none⟩ = if c < H.B then H.load ⟨c, off, none⟩ else if c = H.next then cs[off]? else H.load ⟨c, off, none⟩ := by
  by_cases h : c < H.B
  · simp [Heap.load, h]; rfl
  · by_cases h2 : c = H.next
    · subst h2; simp [Heap.load, h, hz]
    · simp [Heap.load, h, h2]
theorem load_kill (H : Heap) (b c off : Nat) : (H.kill b).load ⟨c, off, none⟩ = if c < H.B then H.load ⟨c, off, none⟩ else if c = b then none else H.load ⟨c, off, none⟩ := by
  by_cases h : c < H.B
  · simp [Heap.load, h]; rfl
  · by_cases h2 : c = b
    · subst h2; simp [Heap.load, h]
    · simp [Heap.load, h, h2]
theorem load_ext {H H' : Heap} (h : H'.base = H.base) {b off : Nat} (hb : b < H.B) : H'.load ⟨b, off, none⟩ = H.load ⟨b, off, none⟩ := by
  have e : H'.B = H.B := by unfold Heap.B; rw [h]
  simp [Heap.load, hb, e, h]
/-- A copy: something is appended to an empty row of its own. -/
theorem append_copy {H : Heap} {ety bytes eb m : Nat} {xs : List Value} {y : Value} (he : H.blk eb = some ⟨ety, 1, []⟩) (hs : srcCells H 1 y = some (m, xs)) (hm : xs.length = m) (hb : m * bytes ≤ 140737488355328) :
    ∃ rb H2, sAppend H ety 1 bytes (.slice (some ⟨eb, 0, none⟩) 0 0) y = some (.slice (some ⟨rb, 0, none⟩) m 0, H2) ∧ H2.blk rb = some ⟨ety, 1, xs⟩ ∧ (rb = eb ∨ rb = H.next) ∧ H2.base = H.base ∧
      (∀ c, c ≠ eb → c ≠ H.next → H2.blk c = H.blk c) := by
  by_cases h0 : m = 0
  · subst h0
    have : xs = [] := List.length_eq_zero_iff.1 hm
    subst this
    exact ⟨eb, H, append_none hs (.inl rfl), he, .inl rfl, rfl, fun _ _ _ => rfl⟩
  · have h := append_own (bytes := bytes) (off := 0) (n := 0) he hs h0 (by simpa using hb) (by simp)
    refine ⟨H.next, (H.kill eb).new ety 1 xs, by simpa using h, by simp, .inr rfl, rfl, ?_⟩
    intro c c1 c2
    simp [c1, c2]
/-- Something is appended to a row of its own. -/
theorem append_rows {H : Heap} {ety bytes eb m n : Nat} {cs xs : List Value} {y : Value} (he : H.blk eb = some ⟨ety, 1, cs⟩) (hn : cs.length = n) (hs : srcCells H 1 y = some (m, xs)) (hm : xs.length = m) (hb : (n + m) * bytes ≤ 140737488355328) :
    ∃ rb H2, sAppend H ety 1 bytes (.slice (some ⟨eb, 0, none⟩) n 0) y = some (.slice (some ⟨rb, 0, none⟩) (n + m) 0, H2) ∧ H2.blk rb = some ⟨ety, 1, cs ++ xs⟩ ∧ (rb = eb ∨ rb = H.next) ∧ H2.base = H.base ∧ H2.next ≤ H.next + 1 ∧ H.next ≤ H2.next ∧
      (∀ c, c ≠ eb → c ≠ H.next → H2.blk c = H.blk c) := by
  by_cases h0 : m = 0
  · subst h0
    have : xs = [] := List.length_eq_zero_iff.1 hm
    subst this
    exact ⟨eb, H, append_none hs (.inl rfl), by simpa using he, .inl rfl, rfl, by omega, by omega, fun _ _ _ => rfl⟩
  · have h := append_own (bytes := bytes) (off := 0) (n := n) he hs h0 hb (by simp [hn])
    refine ⟨H.next, _, h, by simp [hn, List.take_of_length_le], .inr rfl, rfl, by simp, by simp, ?_⟩
    intro c c1 c2
    simp [c1, c2]
@[simp] theorem zerosA_zero (z : List Value) : zerosA z 0 = [] := rfl
theorem src_at {H : Heap} {ety b off n m c : Nat} {cs : List Value} (hB : ¬ b < H.B) (hk : H.blk b = some ⟨ety, n, cs⟩) (h : off + m * n ≤ cs.length) (hz : 0 < n := by first | exact Nat.succ_pos _ | assumption | (simp; done) | (simp; omega)) : srcCells H n (.slice (some ⟨b, off, none⟩) m c) = some (m, (cs.drop off).take (m * n)) := by
  rw [srcCells_slice, loadN_at hB hk (by simpa using h)]; simp
/-- What was there stays, but for these blocks. -/
def Same (H H' : Heap) (S : List Nat) : Prop := ∀ b, b < H.next → b ∉ S → H'.blk b = H.blk b
theorem Same.refl (H : Heap) (S : List Nat) : Same H H S := fun _ _ _ => rfl
theorem Same.trans {H H1 H2 : Heap} {S S' : List Nat} (h : Same H H1 S) (hn : H.next ≤ H1.next) (h' : Same H1 H2 S') (hS : ∀ b, b < H.next → b ∈ S' → b ∈ S) : Same H H2 S := fun b hb hS1 =>
  (h' b (Nat.lt_of_lt_of_le hb hn) (fun hm => hS1 (hS b hb hm))).trans (h b hb hS1)
theorem Same.mono {H H' : Heap} {S S' : List Nat} (h : Same H H' S) (hS : ∀ b, b ∈ S → b ∈ S') : Same H H' S' := fun b hb hn => h b hb (fun hm => hn (hS b hm))
theorem Same.next {H H1 H2 : Heap} {S S' : List Nat} (h : Same H H1 S) (hn : H.next ≤ H1.next) (h' : Same H1 H2 S') (hS : ∀ b ∈ S', H.next ≤ b ∨ b ∈ S) : Same H H2 S :=
  h.trans hn h' fun b hb hm => by rcases hS b hm with h | h; exact absurd h (by omega); exact h
theorem B_eq {H H' : Heap} (h : H'.base = H.base) : H'.B = H.B := by unfold Heap.B; rw [h]
theorem T.B {P : Program} {f : FuncId} {args : List Value} {H : Heap} {v : Value} {H' : Heap} (h : T P f args H v H') : H'.B = H.B := B_eq h.1
theorem Heap.WF.lt {H : Heap} (h : H.WF) {b : Nat} {k : Blk} (hk : H.blk b = some k) : b < H.next := (h.live b k hk).2
theorem Heap.WF.ge {H : Heap} (h : H.WF) {b : Nat} {k : Blk} (hk : H.blk b = some k) : ¬ b < H.B := by have := (h.live b k hk).1; omega
theorem Heap.WF.next_ge {H : Heap} (h : H.WF) : ¬ H.next < H.B := by have := h.next; omega
/-- The block of a slice. -/
def blkOf : Value → Option Nat
  | .slice (some a) _ _ => some a.block
  | _ => none
@[simp] theorem blkOf_nil (n c : Nat) : blkOf (.slice none n c) = none := rfl
@[simp] theorem blkOf_some (a : Addr) (n c : Nat) : blkOf (.slice (some a) n c) = some a.block := rfl
def Heap.drop (H : Heap) (x : Value) : Heap := match blkOf x with | some b => H.kill b | none => H
theorem blk_drop (H : Heap) (x : Value) (c : Nat) : (H.drop x).blk c = if blkOf x = some c then none else H.blk c := by
  unfold Heap.drop
  cases h : blkOf x with
  | none => simp
  | some b =>
    simp only [blk_kill, Option.some.injEq]
    by_cases hc : c = b
    · subst hc; simp
    · simp [hc, Ne.symm hc]
@[simp] theorem base_drop (H : Heap) (x : Value) : (H.drop x).base = H.base := by unfold Heap.drop; cases blkOf x <;> rfl
@[simp] theorem B_drop (H : Heap) (x : Value) : (H.drop x).B = H.B := by unfold Heap.drop; cases blkOf x <;> rfl
@[simp] theorem next_drop (H : Heap) (x : Value) : (H.drop x).next = H.next := by unfold Heap.drop; cases blkOf x <;> rfl
theorem WF_drop {H : Heap} (h : H.WF) (x : Value) : (H.drop x).WF := by unfold Heap.drop; cases blkOf x <;> first | exact h | exact WF_kill h _
/-- A slice that is a row of its own from its first cell on: it may grow. -/
def Own (H : Heap) (ety sz n : Nat) (cells : List Value) (x : Value) : Prop :=
  cells.length = n * sz ∧ ((x = .slice none 0 0 ∧ n = 0) ∨ ∃ b rest, x = .slice (some ⟨b, 0, none⟩) n 0 ∧ ¬ b < H.B ∧ H.blk b = some ⟨ety, sz, cells ++ rest⟩)
theorem Own.nil (H : Heap) (ety sz : Nat) : Own H ety sz 0 [] (.slice none 0 0) := ⟨by simp, .inl ⟨rfl, rfl⟩⟩
theorem Own.mk {H : Heap} {ety sz n b : Nat} {cells : List Value} (hl : cells.length = n * sz) (hB : ¬ b < H.B) (hk : H.blk b = some ⟨ety, sz, cells⟩) : Own H ety sz n cells (.slice (some ⟨b, 0, none⟩) n 0) :=
  ⟨hl, .inr ⟨b, [], rfl, hB, by simpa using hk⟩⟩
theorem Own.keep {H H' : Heap} {ety sz n : Nat} {cells : List Value} {x : Value} (h : Own H ety sz n cells x) (hB : H'.B = H.B) (hk : ∀ b, blkOf x = some b → H'.blk b = H.blk b) : Own H' ety sz n cells x := by
  refine ⟨h.1, ?_⟩
  rcases h.2 with h | ⟨b, rest, rfl, h1, h2⟩
  · exact .inl h
  · exact .inr ⟨b, rest, rfl, by rw [hB]; exact h1, by rw [hk b rfl]; exact h2⟩
theorem Own.len {H : Heap} {ety sz n : Nat} {cells : List Value} {x : Value} (h : Own H ety sz n cells x) : ∃ a, x = .slice a n 0 := by
  rcases h.2 with ⟨rfl, rfl⟩ | ⟨b, rest, rfl, _⟩
  · exact ⟨none, rfl⟩
  · exact ⟨_, rfl⟩
theorem Own.lt {H : Heap} (hw : H.WF) {ety sz n : Nat} {cells : List Value} {x : Value} (h : Own H ety sz n cells x) {b : Nat} (hb : blkOf x = some b) : b < H.next := by
  rcases h.2 with ⟨rfl, _⟩ | ⟨c, rest, rfl, _, h2⟩
  · cases hb
  · cases hb; exact hw.lt h2
theorem append_any {H : Heap} {ety sz bytes n m : Nat} {cells xs : List Value} {x y : Value} (h : Own H ety sz n cells x) (hs : srcCells H sz y = some (m, xs)) (hm : m ≠ 0) (hb : (n + m) * bytes ≤ 140737488355328) :
    sAppend H ety sz bytes x y = some (.slice (some ⟨H.next, 0, none⟩) (n + m) 0, (H.drop x).new ety sz (cells ++ xs)) := by
  rcases h.2 with ⟨rfl, rfl⟩ | ⟨b, rest, rfl, h1, h2⟩
  · have : cells = [] := by simpa using h.1
    subst this
    rw [append_nil hs hm (by simpa using hb)]
    simp [Heap.drop]
  · rw [append_own h2 hs hm hb (by simp [h.1])]
    simp only [Heap.drop, blkOf_some]
    rw [List.take_append_of_le_length (by rw [h.1]; exact Nat.le_refl _), List.take_of_length_le (by rw [h.1]; exact Nat.le_refl _)]
theorem src_one {H : Heap} {ety y c : Nat} {v : Value} (hy : ¬ y < H.B) (hv : H.blk y = some ⟨ety, 1, [v]⟩) : srcCells H 1 (.slice (some ⟨y, 0, none⟩) 1 c) = some (1, [v]) := by
  rw [srcCells_slice, loadN_at hy hv (by simp)]; simp
theorem zerosA_one (z : Value) (n : Nat) : zerosA [z] n = List.replicate n z := by
  unfold zerosA
  apply List.ext_getElem
  · simp
  · intro i h1 h2
    simp [Nat.mod_one]
@[simp] theorem fillA_nil (cs : List Value) : fillA cs [] = some cs := rfl
@[simp] theorem fillA_cons (cs : List Value) (o s : Nat) (v : Value) (rest : List (Nat × Nat × Value)) :
    fillA cs ((o, s, v) :: rest) = if notTup v = true ∧ v.cells.size = s ∧ o + s ≤ cs.length then fillA (cs.take o ++ v.cells.toList ++ cs.drop (o + s)) rest else none := rfl
@[simp] theorem evParts_nil (t : Tm) : evParts t [] = [] := rfl
@[simp] theorem evParts_cons (t : Tm) (p : Nat × Nat × Operand) (l : List (Nat × Nat × Operand)) : evParts t (p :: l) = (p.1, p.2.1, ev t p.2.2) :: evParts t l := rfl
end Go.Ot
