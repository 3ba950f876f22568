/-
  Part B: abstract heaps, and how a heap stands to a world.
-/
import Derived.Test.YtfmcnojojknkfaaOtA
set_option linter.unusedVariables false
set_option linter.unusedSimpArgs false
namespace Go.Ot
open Go.RowKit

/-- A block of the call's own: its elements' type, how many cells an element has, and the cells in use. -/
structure Blk where
  ty : TypeId
  sz : Nat
  cells : List Value

/-- What was there: a world, and how many of its blocks may be spoken of by their own numbers. -/
structure Base where
  w : World
  lim : Nat
/-- What was there, the next number, and the own blocks. -/
structure Heap where
  base : Base
  next : Nat
  blk : Nat → Option Blk

def Heap.B (H : Heap) : Nat := H.base.lim
def Heap.N (H : Heap) : Nat := H.base.w.heap.size
def Heap.cx (H : Heap) (ρ : Nat → Nat × Nat) : Cx := ⟨H.B, H.next, ρ, H.N⟩
def Heap.new (H : Heap) (ty : TypeId) (sz : Nat) (cells : List Value) : Heap :=
  { base := H.base, next := H.next + 1, blk := fun b => if b = H.next then some ⟨ty, sz, cells⟩ else H.blk b }
def Heap.put (H : Heap) (b : Nat) (cells : List Value) : Heap :=
  { base := H.base, next := H.next, blk := fun x => if x = b then (H.blk b).map (fun k => { k with cells := cells }) else H.blk x }
def Heap.kill (H : Heap) (b : Nat) : Heap := { base := H.base, next := H.next, blk := fun x => if x = b then none else H.blk x }
/-- May this stand in a cell that came in? (A slice of nothing may stand at any place.) -/
def extOk (B : Nat) : Value → Bool
  | .bool _ | .int _ _ | .string _ | .pointer none | .slice none _ _ | .nilIface | .nilFunc | .map none => true
  | .pointer (some a) => decide (a.block < B)
  | .slice (some a) n cap => (n == 0 || decide (a.block < B)) && decide (n ≤ cap)
  | .map (some m) => decide (m < B)
  | _ => false
/-- What it is on the abstract side: a slice's third number says nothing; of a slice of nothing the place says nothing. -/
def absV : Value → Value
  | .slice (some a) n _ => if n = 0 then .slice (some ⟨0, 0, none⟩) 0 2 else .slice (some a) n 2
  | v => v
theorem extOk_self {c : Cx} {v : Value} (hB : 0 < c.B) (h : extOk c.B v = true) : r0 c (absV v) v := by
  cases v with
  | pointer a => cases a with
    | none => rfl
    | some a => simp only [extOk, decide_eq_true_eq] at h; exact ⟨.inl h, by simp [Cx.addr, h]⟩
  | slice a n k => cases a with
    | none => rfl
    | some a =>
      simp only [extOk, Bool.and_eq_true, Bool.or_eq_true, beq_iff_eq, decide_eq_true_eq] at h
      by_cases hn : n = 0
      · subst hn
        simp only [absV, if_true]
        exact ⟨.inl hB, a, k, rfl, h.2, fun h0 => absurd h0 (by decide), ⟨fun h0 => absurd h0 (by decide), fun h0 => absurd h0 (by decide)⟩⟩
      · simp only [absV, if_neg hn]
        have h1 : a.block < c.B := by rcases h.1 with h1 | h1; exact absurd h1 hn; exact h1
        exact ⟨.inl h1, a, k, rfl, h.2, fun _ => by simp [Cx.addr, h1], ⟨fun h0 => absurd h0 (by decide), fun h0 => absurd h0 (by decide)⟩⟩
  | map m => cases m with
    | none => rfl
    | some m => simp only [extOk, decide_eq_true_eq] at h; exact ⟨.inl h, by simp [Cx.mp, h]⟩
  | _ => first | rfl | (simp [extOk] at h; done)
def Heap.load (H : Heap) (a : Addr) : Option Value :=
  if a.block < H.B then (H.base.w.cell? a).bind (fun v => if extOk H.B v then some (absV v) else none)
  else if a.spot = none then (H.blk a.block).bind (fun k => if 0 < k.sz then k.cells[a.off]? else none) else none
def Heap.store (H : Heap) (a : Addr) (v : Value) : Option Heap :=
  if a.block < H.B then none
  else if a.spot = none then (H.blk a.block).bind (fun k => if 0 < k.sz ∧ a.off < k.cells.length then some (H.put a.block (k.cells.set a.off v)) else none) else none

/-- No cell of a block is barred. -/
def Free (n : Nat) (fz : Nat × Nat) : Prop := fz = (0, 0) ∨ n ≤ fz.1
theorem Free.no {n : Nat} {fz : Nat × Nat} (h : Free n fz) : ∀ i, i < n → ¬ (fz.1 ≤ i ∧ i < fz.2) := by
  intro i hi hx
  rcases h with rfl | h
  · simp at hx
  · omega

/-- A block stands to what lies in the world. -/
def Row (c : Cx) (w : World) (g lim : Nat) (k : Blk) : Prop :=
  c.N ≤ g ∧ lim ≤ maxLen ∧ 0 < k.sz ∧ ∃ cur fz, w.heap[g]? = some (.cells cur k.ty fz) ∧ Free cur.size fz ∧ cur.size = lim * k.sz ∧
    All2 (r1 c) k.cells (cur.toList.take k.cells.length)

/-- An entry of a map. -/
structure MEnt where
  key : Value
  val : Value
  born : Nat
/-- A map as a block of no cells: its clock, and its entries. -/
def mcells (clock : Nat) (es : List MEnt) : List Value := .int .i64 clock :: es.map (fun e => .tuple #[e.key, e.val, .int .i64 e.born])
def mEnt (c : Cx) (e : MEnt) (e' : MapEntry) : Prop := plain0 e.key = true ∧ e'.key = e.key ∧ e'.born = e.born ∧ r2 c e.val e'.val
/-- A map that is gone through: whose map, its clock at the start, its clock at the last step, and the stamps of what was shown. -/
def icells (om : Option Nat) (since : Nat) (seen : List Nat) (last : Nat) : List Value := .map om :: .int .i64 since :: .int .i64 last :: seen.map fun (n : Nat) => .int .i64 (n : Int)
/-- A block that is no row of cells: a map (of type 0), a text that is gone through (of type 1), a map that is gone through (of type 2). -/
def Oth (c : Cx) (w : World) (g : Nat) (k : Blk) : Prop :=
  c.N ≤ g ∧ k.sz = 0 ∧
    ((k.ty = 0 ∧ ∃ clock es es', k.cells = mcells clock es ∧ w.heap[g]? = some (.map es' clock) ∧ All2 (mEnt c) es es'.toList) ∨
     (k.ty = 1 ∧ ∃ s pos, k.cells = [.string s, .int .i64 (pos : Nat)] ∧ w.heap[g]? = some (.stringIter s pos)) ∨
     (k.ty = 2 ∧ ∃ om om' since seen last, k.cells = icells om since seen last ∧ r0 c (.map om) (.map om') ∧ w.heap[g]? = some (.mapIter om' since seen.toArray last)))
structure Rep (H : Heap) (ρ : Nat → Nat × Nat) (w : World) : Prop where
  below : Below H.N H.base.w w
  lim : H.B ≤ H.N
  next : H.B ≤ H.next
  live : ∀ b k, H.blk b = some k → H.B ≤ b ∧ b < H.next
  row : ∀ b k, H.blk b = some k → 0 < k.sz → Row (H.cx ρ) w (ρ b).1 (ρ b).2 k
  oth : ∀ b k, H.blk b = some k → k.sz = 0 → Oth (H.cx ρ) w (ρ b).1 k
  inj : ∀ b b' k k', H.blk b = some k → H.blk b' = some k' → (ρ b).1 = (ρ b').1 → b = b'

theorem Row.mono {c c' : Cx} (h : c.le c') {w : World} {g lim : Nat} {k : Blk} (hr : Row c w g lim k) : Row c' w g lim k := by
  obtain ⟨h1, h2, h3, cur, fz, h4, h5, h6, h7⟩ := hr
  exact ⟨by rw [h.N]; exact h1, h2, h3, cur, fz, h4, h5, h6, h7.imp (fun _ _ => r1_mono h)⟩
theorem Row.same {c : Cx} {w w' : World} {g lim : Nat} {k : Blk} (hr : Row c w g lim k) (hw : w'.heap[g]? = w.heap[g]?) : Row c w' g lim k := by
  obtain ⟨h1, h2, h3, cur, fz, h4, h⟩ := hr
  exact ⟨h1, h2, h3, cur, fz, by rw [hw]; exact h4, h⟩
theorem Row.lt {c : Cx} {w : World} {g lim : Nat} {k : Blk} (hr : Row c w g lim k) : g < w.heap.size := by
  obtain ⟨_, _, _, cur, fz, h4, _⟩ := hr
  exact (Array.getElem?_eq_some_iff.1 h4).1

theorem Oth.mono {c c' : Cx} (h : c.le c') {w : World} {g : Nat} {k : Blk} (hr : Oth c w g k) : Oth c' w g k := by
  obtain ⟨h1, h2, h3⟩ := hr
  refine ⟨by rw [h.N]; exact h1, h2, ?_⟩
  rcases h3 with ⟨ht, clock, es, es', e1, e2, e3⟩ | h3 | ⟨ht, om, om', since, seen, last, e1, e2, e3⟩
  · exact .inl ⟨ht, clock, es, es', e1, e2, e3.imp (fun _ _ he => ⟨he.1, he.2.1, he.2.2.1, r2_mono h he.2.2.2⟩)⟩
  · exact .inr (.inl h3)
  · exact .inr (.inr ⟨ht, om, om', since, seen, last, e1, r0_mono h e2, e3⟩)
theorem Oth.same {c : Cx} {w w' : World} {g : Nat} {k : Blk} (hr : Oth c w g k) (hw : w'.heap[g]? = w.heap[g]?) : Oth c w' g k := by
  obtain ⟨h1, h2, h3⟩ := hr
  refine ⟨h1, h2, ?_⟩
  rw [hw]; exact h3
theorem Oth.lt {c : Cx} {w : World} {g : Nat} {k : Blk} (hr : Oth c w g k) : g < w.heap.size := by
  obtain ⟨_, _, h3⟩ := hr
  rcases h3 with ⟨_, _, _, _, _, h4, _⟩ | ⟨_, _, _, _, h4⟩ | ⟨_, _, _, _, _, _, _, _, h4⟩
  · exact (Array.getElem?_eq_some_iff.1 h4).1
  · exact (Array.getElem?_eq_some_iff.1 h4).1
  · exact (Array.getElem?_eq_some_iff.1 h4).1
theorem Rep.lt {H : Heap} {ρ : Nat → Nat × Nat} {w : World} (h : Rep H ρ w) {b : Nat} {k : Blk} (hk : H.blk b = some k) : (ρ b).1 < w.heap.size := by
  by_cases h0 : 0 < k.sz
  · exact (h.row _ _ hk h0).lt
  · exact (h.oth _ _ hk (by omega)).lt
theorem Rep.far {H : Heap} {ρ : Nat → Nat × Nat} {w : World} (h : Rep H ρ w) {b : Nat} {k : Blk} (hk : H.blk b = some k) : H.N ≤ (ρ b).1 := by
  by_cases h0 : 0 < k.sz
  · exact (h.row _ _ hk h0).1
  · exact (h.oth _ _ hk (by omega)).1

namespace Rep
variable {H : Heap} {ρ : Nat → Nat × Nat} {w : World}

/-- A cell that is there. -/
theorem load (h : Rep H ρ w) {a : Addr} {v : Value} (hl : H.load a = some v) : (H.cx ρ).ok a ∧ ∃ v', w.cell? ((H.cx ρ).addr a) = some v' ∧ r1 (H.cx ρ) v v' := by
  unfold Heap.load at hl
  by_cases hb : a.block < H.B
  · simp only [hb, if_true] at hl
    cases hc : H.base.w.cell? a with
    | none => simp [hc] at hl
    | some u =>
      simp only [hc, Option.bind_some] at hl
      split at hl
      · rename_i hx
        cases hl
        refine ⟨.inl hb, u, ?_, r1_of_r0 (extOk_self (c := H.cx ρ) (Nat.lt_of_le_of_lt (Nat.zero_le _) hb) hx)⟩
        have : (H.cx ρ).addr a = a := by simp [Cx.addr, Heap.cx, hb]
        rw [this, h.below.cell (Nat.lt_of_lt_of_le hb h.lim), hc]
      · cases hl
  · simp only [hb, if_false] at hl
    split at hl
    · rename_i hs
      cases hk : H.blk a.block with
      | none => simp [hk] at hl
      | some k =>
        simp only [hk, Option.bind_some] at hl
        by_cases h0 : 0 < k.sz
        case neg => rw [if_neg h0] at hl; cases hl
        rw [if_pos h0] at hl
        obtain ⟨h1, h2, h3, cur, fz, h4, h5, h6, h7⟩ := h.row _ _ hk h0
        obtain ⟨v', hv', hr⟩ := h7.get hl
        refine ⟨.inr ⟨(h.live _ _ hk).2, hs⟩, v', ?_, hr⟩
        have : (H.cx ρ).addr a = ⟨(ρ a.block).1, a.off, none⟩ := by simp [Cx.addr, Heap.cx, hb]
        rw [this, cell_of_row _ _ _ _ _ _ h4]
        rw [List.getElem?_take] at hv'
        split at hv'
        · simpa using hv'
        · cases hv'
    · cases hl

theorem blk_put_self {H : Heap} {b : Nat} {k : Blk} (hk : H.blk b = some k) (cs : List Value) : (H.put b cs).blk b = some { k with cells := cs } := by
  simp [Heap.put, hk]
theorem blk_put_ne {H : Heap} {b x : Nat} (h : x ≠ b) (cs : List Value) : (H.put b cs).blk x = H.blk x := by
  simp [Heap.put, h]

/-- A row is written anew: from what the world's block becomes. -/
theorem putRow (h : Rep H ρ w) {b : Nat} {k : Blk} (hk : H.blk b = some k) (cs : List Value) {w' : World}
    (hb : Below H.N H.base.w w') (hrow : if 0 < k.sz then Row (H.cx ρ) w' (ρ b).1 (ρ b).2 { k with cells := cs } else Oth (H.cx ρ) w' (ρ b).1 { k with cells := cs }) (hother : ∀ g, g ≠ (ρ b).1 → g < w.heap.size → w'.heap[g]? = w.heap[g]?) : Rep (H.put b cs) ρ w' where
  below := hb
  lim := h.lim
  next := h.next
  live := by
    intro x kx hx
    by_cases e : x = b
    · subst e; exact h.live _ _ hk
    · rw [blk_put_ne e] at hx; exact h.live _ _ hx
  row := by
    intro x kx hx h0
    by_cases e : x = b
    · subst e
      rw [blk_put_self hk] at hx
      cases hx
      rw [if_pos (by exact h0)] at hrow
      exact hrow
    · rw [blk_put_ne e] at hx
      have hr := h.row _ _ hx h0
      refine Row.same (w := w) hr (hother _ (fun he => e (h.inj _ _ _ _ hx hk he)) hr.lt)
  oth := by
    intro x kx hx h0
    by_cases e : x = b
    · subst e
      rw [blk_put_self hk] at hx
      cases hx
      have h0' : k.sz = 0 := h0
      rw [if_neg (by omega)] at hrow
      exact hrow
    · rw [blk_put_ne e] at hx
      have hr := h.oth _ _ hx h0
      refine Oth.same (w := w) hr (hother _ (fun he => e (h.inj _ _ _ _ hx hk he)) hr.lt)
  inj := by
    intro x y kx ky hx hy he
    have hx' : ∃ k', H.blk x = some k' := by
      by_cases e : x = b
      · subst e; exact ⟨_, hk⟩
      · rw [blk_put_ne e] at hx; exact ⟨_, hx⟩
    have hy' : ∃ k', H.blk y = some k' := by
      by_cases e : y = b
      · subst e; exact ⟨_, hk⟩
      · rw [blk_put_ne e] at hy; exact ⟨_, hy⟩
    obtain ⟨_, hx'⟩ := hx'
    obtain ⟨_, hy'⟩ := hy'
    exact h.inj _ _ _ _ hx' hy' he

/-- A cell is written. -/
theorem store (h : Rep H ρ w) {a : Addr} {v v' : Value} {H' : Heap} (hs : H.store a v = some H') (hr : r1 (H.cx ρ) v v') :
    (H.cx ρ).ok a ∧ (∃ u, w.cell? ((H.cx ρ).addr a) = some u) ∧ w.frozen? ((H.cx ρ).addr a) = false ∧ Rep H' ρ (w.setCell ((H.cx ρ).addr a) v') ∧ H'.base = H.base ∧ H'.next = H.next := by
  unfold Heap.store at hs
  by_cases hb : a.block < H.B
  · simp [hb] at hs
  · simp only [hb, if_false] at hs
    split at hs
    · rename_i hsp
      cases hk : H.blk a.block with
      | none => simp [hk] at hs
      | some k =>
        simp only [hk, Option.bind_some] at hs
        split at hs
        · rename_i hlt
          obtain ⟨h0, hlt⟩ := hlt
          cases hs
          have hrow := h.row _ _ hk h0
          obtain ⟨h1, h2, h3, cur, fz, h4, h5, h6, h7⟩ := hrow
          have haddr : (H.cx ρ).addr a = ⟨(ρ a.block).1, a.off, none⟩ := by simp [Cx.addr, Heap.cx, hb]
          have hlen := h7.length
          rw [List.length_take] at hlen
          have hlt' : a.off < cur.size := by simp at hlen; omega
          refine ⟨.inr ⟨(h.live _ _ hk).2, hsp⟩, ⟨cur[a.off], ?_⟩, ?_, ?_, rfl, rfl⟩
          · rw [haddr, cell_of_row _ _ _ _ _ _ h4]; simp [hlt']
          · have := h5.no _ hlt'
            obtain ⟨f1, f2⟩ := fz
            rw [haddr]
            simp only [World.frozen?, h4]
            simp only [Bool.and_eq_false_iff, decide_eq_false_iff_not]
            by_cases hx : f1 ≤ a.off
            · exact .inr (fun hy => this ⟨hx, hy⟩)
            · exact .inl hx
          · have hset := setCell_eq_setRow w (ρ a.block).1 a.off cur k.ty fz v' h4
            have hheap := setRow_heap w (ρ a.block).1 cur (cur.setIfInBounds a.off v') k.ty fz h4
            rw [haddr]
            refine h.putRow hk _ ?_ ?_ ?_
            · exact h.below.setCell (by show H.N ≤ _; exact h1) v'
            · rw [if_pos h0]
              refine ⟨h1, h2, h3, cur.setIfInBounds a.off v', fz, by rw [hset]; exact hheap, by simpa using h5, by simpa using h6, ?_⟩
              have := h7.set hr a.off
              simpa [List.take_set] using this
            · intro g hg _
              exact Below.heap_setCell _ _ _ _ hg
        · cases hs
    · cases hs

/-- Forgetting blocks; fewer numbers in use. -/
theorem drew (h : Rep H ρ w) : Rep H ρ w.drew := ⟨h.below.drew, h.lim, h.next, h.live, fun b k hk h0 => (h.row b k hk h0).same rfl, fun b k hk h0 => (h.oth b k hk h0).same rfl, h.inj⟩
theorem drawn (h : Rep H ρ w) : Rep H ρ { w with drawn := w.drawn + 1 } := h.drew
theorem kill (h : Rep H ρ w) (b : Nat) : Rep (H.kill b) ρ w where
  below := h.below
  lim := h.lim
  next := h.next
  live := by intro x k hx; unfold Heap.kill at hx; simp only at hx; split at hx; cases hx; exact h.live _ _ hx
  row := by intro x k hx; unfold Heap.kill at hx; simp only at hx; split at hx; cases hx; exact h.row _ _ hx
  oth := by intro x k hx; unfold Heap.kill at hx; simp only at hx; split at hx; cases hx; exact h.oth _ _ hx
  inj := by
    intro x y k k' hx hy he
    unfold Heap.kill at hx hy
    simp only at hx hy
    split at hx
    · cases hx
    · split at hy
      · cases hy
      · exact h.inj _ _ _ _ hx hy he
end Rep

def up (ρ : Nat → Nat × Nat) (n : Nat) (p : Nat × Nat) : Nat → Nat × Nat := fun b => if b = n then p else ρ b
theorem up_self (ρ : Nat → Nat × Nat) (n : Nat) (p : Nat × Nat) : up ρ n p n = p := by simp [up]
theorem up_ne (ρ : Nat → Nat × Nat) {n b : Nat} (p : Nat × Nat) (h : b ≠ n) : up ρ n p b = ρ b := by simp [up, h]
theorem le_up (H : Heap) (ρ : Nat → Nat × Nat) (p : Nat × Nat) {H' : Heap} (hb : H'.base = H.base) (hn : H.next ≤ H'.next) : (H.cx ρ).le (H'.cx (up ρ H.next p)) :=
  ⟨by simp [Heap.cx, Heap.B, hb], hn, fun b hb => up_ne _ _ (by simp only [Heap.cx] at hb; omega), by simp [Heap.cx, Heap.N, hb]⟩
theorem le_same (H : Heap) (ρ : Nat → Nat × Nat) {H' : Heap} (hb : H'.base = H.base) (hn : H.next ≤ H'.next) : (H.cx ρ).le (H'.cx ρ) :=
  ⟨by simp [Heap.cx, Heap.B, hb], hn, fun b hb => rfl, by simp [Heap.cx, Heap.N, hb]⟩

theorem le_new (H : Heap) (ρ : Nat → Nat × Nat) (p : Nat × Nat) (ty : TypeId) (sz : Nat) (cells : List Value) : (H.cx ρ).le ((H.new ty sz cells).cx (up ρ H.next p)) :=
  le_up H ρ p rfl (Nat.le_succ _)

/-- A new own block at a place of the world that no live block has. -/
theorem Rep.add {H : Heap} {ρ : Nat → Nat × Nat} {w w' : World} (h : Rep H ρ w) (ty : TypeId) (sz : Nat) (cells : List Value) (g lim : Nat)
    (hb : Below H.N H.base.w w') (hrow : if 0 < sz then Row ((H.new ty sz cells).cx (up ρ H.next (g, lim))) w' g lim ⟨ty, sz, cells⟩ else Oth ((H.new ty sz cells).cx (up ρ H.next (g, lim))) w' g ⟨ty, sz, cells⟩)
    (hother : ∀ b k, H.blk b = some k → (ρ b).1 ≠ g ∧ w'.heap[(ρ b).1]? = w.heap[(ρ b).1]?) :
    Rep (H.new ty sz cells) (up ρ H.next (g, lim)) w' where
  below := hb
  lim := h.lim
  next := Nat.le_succ_of_le h.next
  live := by
    intro x k hx
    unfold Heap.new at hx
    simp only at hx
    split at hx
    · rename_i e; subst e; exact ⟨h.next, Nat.lt_succ_self _⟩
    · have := h.live _ _ hx; exact ⟨this.1, Nat.lt_succ_of_lt this.2⟩
  row := by
    intro x k hx h0
    unfold Heap.new at hx
    simp only at hx
    split at hx
    · rename_i e; subst e; cases hx; rw [up_self]; rw [if_pos (by exact h0)] at hrow; exact hrow
    · rename_i e
      rw [up_ne _ _ e]
      exact ((h.row _ _ hx h0).mono (le_new H ρ (g, lim) ty sz cells)).same (hother _ _ hx).2
  oth := by
    intro x k hx h0
    unfold Heap.new at hx
    simp only at hx
    split at hx
    · rename_i e; subst e; cases hx; rw [up_self]; have h0' : sz = 0 := h0; rw [if_neg (by omega)] at hrow; exact hrow
    · rename_i e
      rw [up_ne _ _ e]
      exact ((h.oth _ _ hx h0).mono (le_new H ρ (g, lim) ty sz cells)).same (hother _ _ hx).2
  inj := by
    intro x y k k' hx hy he
    unfold Heap.new at hx hy
    simp only at hx hy
    split at hx
    · rename_i e; subst e
      split at hy
      · rename_i e; exact e.symm
      · rename_i e
        rw [up_self, up_ne _ _ e] at he
        exact absurd he.symm (hother _ _ hy).1
    · rename_i e
      split at hy
      · rename_i e'; subst e'
        rw [up_self, up_ne _ _ e] at he
        exact absurd he (hother _ _ hx).1
      · rename_i e'
        rw [up_ne _ _ e, up_ne _ _ e'] at he
        exact h.inj _ _ _ _ hx hy he

/-- A new block of the world's. -/
theorem Rep.alloc {H : Heap} {ρ : Nat → Nat × Nat} {w : World} (h : Rep H ρ w) (ty : TypeId) (sz : Nat) (hsz : 0 < sz) (cells : List Value) (cur : Array Value) (fz : Nat × Nat) (lim : Nat)
    (hlim : lim ≤ maxLen) (hfz : Free cur.size fz) (hcur : cur.size = lim * sz) (hr : All2 (r1 (H.cx ρ)) cells (cur.toList.take cells.length)) :
    Rep (H.new ty sz cells) (up ρ H.next (w.heap.size, lim)) (w.alloc (.cells cur ty fz)) := by
  have hB : H.N ≤ w.heap.size := h.below.size
  refine h.add ty sz cells _ _ (h.below.alloc hB _) (by rw [if_pos hsz]; exact ⟨hB, hlim, hsz, cur, fz, heap_alloc_new _ _, hfz, hcur, hr.imp (fun _ _ => r1_mono (le_new H ρ _ ty sz cells))⟩) ?_
  intro b k hk
  have := h.lt hk
  exact ⟨by omega, heap_alloc_old _ _ this⟩
end Go.Ot
