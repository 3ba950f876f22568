/-
  Part Zi: light code run on closed heaps by reckoning alone, and what such a run proves.
-/
import Derived.Test.YtfmcnojojknkfaaOtZa
set_option linter.unusedVariables false
set_option linter.unusedSimpArgs false
namespace Go.Ot
open Go.RowKit

/-! ### tables by number -/
inductive Tr (α : Type) where
  | leaf
  | node (l : Tr α) (v : Option α) (r : Tr α)
def Tr.get {α : Type} : Tr α → Nat → Option α
  | .leaf, _ => none
  | .node _ v _, 0 => v
  | .node l _ r, k + 1 => match k % 2 with | 0 => l.get (k / 2) | _ => r.get (k / 2)
def Tr.sub {α : Type} : Tr α → Tr α × Option α × Tr α
  | .leaf => (.leaf, none, .leaf)
  | .node l v r => (l, v, r)
def Tr.set {α : Type} (x : Option α) : Nat → Nat → Tr α → Tr α
  | 0, _, t => t
  | _ + 1, 0, t => .node t.sub.1 x t.sub.2.2
  | f + 1, k + 1, t => match k % 2 with
    | 0 => .node (Tr.set x f (k / 2) t.sub.1) t.sub.2.1 t.sub.2.2
    | _ => .node t.sub.1 t.sub.2.1 (Tr.set x f (k / 2) t.sub.2.2)
theorem Tr.get_sub {α : Type} (t : Tr α) : (∀ n, t.get n = (Tr.node t.sub.1 t.sub.2.1 t.sub.2.2).get n) := by
  intro n
  cases t with
  | leaf => cases n with
    | zero => rfl
    | succ k => simp only [Tr.get, Tr.sub]; split <;> rfl
  | node l v r => rfl
theorem Tr.get_set {α : Type} (x : Option α) : ∀ (f n : Nat) (t : Tr α), n < f → ∀ m, (Tr.set x f n t).get m = if m = n then x else t.get m
  | 0, n, t, h, m => by omega
  | f + 1, 0, t, h, m => by
    rw [Tr.get_sub t m]
    cases m with
    | zero => rfl
    | succ m => simp [Tr.set, Tr.get]
  | f + 1, k + 1, t, h, m => by
    rw [Tr.get_sub t m]
    simp only [Tr.set]
    rcases hk : k % 2 with _ | q
    · cases m with
      | zero => simp [Tr.get]
      | succ m =>
        simp only [Tr.get]
        rcases hm : m % 2 with _ | q'
        · simp only
          rw [Tr.get_set x f (k / 2) t.sub.1 (by omega) (m / 2)]
          by_cases hmk : m = k
          · subst hmk; simp
          · have h1 : ¬ m / 2 = k / 2 := by omega
            have h2 : ¬ m + 1 = k + 1 := by omega
            rw [if_neg h1, if_neg h2]
        · simp only
          have h2 : ¬ m + 1 = k + 1 := by intro e; have : m = k := by omega
                                          subst this; omega
          rw [if_neg h2]
    · cases m with
      | zero => simp [Tr.get]
      | succ m =>
        simp only [Tr.get]
        rcases hm : m % 2 with _ | q'
        · simp only
          have h2 : ¬ m + 1 = k + 1 := by intro e; have : m = k := by omega
                                          subst this; omega
          rw [if_neg h2]
        · simp only
          rw [Tr.get_set x f (k / 2) t.sub.2.2 (by omega) (m / 2)]
          by_cases hmk : m = k
          · subst hmk; simp
          · have h1 : ¬ m / 2 = k / 2 := by omega
            have h2 : ¬ m + 1 = k + 1 := by omega
            rw [if_neg h1, if_neg h2]
def Tr.put {α : Type} (t : Tr α) (n : Nat) (x : Option α) : Tr α := Tr.set x (n + 1) n t
theorem Tr.get_put {α : Type} (t : Tr α) (n : Nat) (x : Option α) (m : Nat) : (t.put n x).get m = if m = n then x else t.get m := Tr.get_set x (n + 1) n t (Nat.lt_succ_self n) m

/-! ### closed heaps -/
structure CH where
  next : Nat
  tr : Tr Blk
def CH.empty : CH := ⟨0, .leaf⟩
def CH.new (h : CH) (ty sz : Nat) (cs : List Value) : CH := ⟨h.next + 1, h.tr.put h.next (some ⟨ty, sz, cs⟩)⟩
def CH.put (h : CH) (b : Nat) (cs : List Value) : CH := match h.tr.get b with | some k => ⟨h.next, h.tr.put b (some ⟨k.ty, k.sz, cs⟩)⟩ | none => h
def CH.kill (h : CH) (b : Nat) : CH := ⟨h.next, h.tr.put b none⟩
/-- What it is over a world of which nothing is spoken. -/
def den (W : World) (h : CH) : Heap := { base := ⟨W, 0⟩, next := h.next, blk := fun b => h.tr.get b }
section
variable {W : World} {h : CH}
theorem heap_ext {H H' : Heap} (hb : H.base = H'.base) (hn : H.next = H'.next) (hk : ∀ b, H.blk b = H'.blk b) : H = H' := Heap.eq_of hb hn hk
theorem den_B : (den W h).B = 0 := rfl
theorem den_next : (den W h).next = h.next := rfl
theorem den_blk (b : Nat) : (den W h).blk b = h.tr.get b := rfl
theorem den_new (ty sz : Nat) (cs : List Value) : (den W h).new ty sz cs = den W (h.new ty sz cs) :=
  heap_ext rfl rfl fun b => by
    rw [blk_new]
    show _ = (h.tr.put h.next (some ⟨ty, sz, cs⟩)).get b
    rw [Tr.get_put]
    rfl
theorem den_put (b : Nat) (cs : List Value) : (den W h).put b cs = den W (h.put b cs) := by
  refine heap_ext rfl ?_ fun c => ?_
  · simp only [CH.put]; split <;> rfl
  · rw [blk_put]
    simp only [den, CH.put]
    cases hb : h.tr.get b with
    | none =>
      simp only [Option.map_none]
      by_cases hc : c = b
      · subst hc; simp [hb]
      · simp [hc]
    | some k =>
      simp only [Option.map_some, Tr.get_put]
theorem den_kill (b : Nat) : (den W h).kill b = den W (h.kill b) := heap_ext rfl rfl fun c => by rw [blk_kill]; simp only [den, CH.kill, Tr.get_put]
end
def cload (h : CH) (a : Addr) : Option Value := match a.spot with
  | none => match h.tr.get a.block with
    | some k => match k.sz with
      | 0 => none
      | _ + 1 => k.cells[a.off]?
    | none => none
  | some _ => none
theorem den_load {W : World} {h : CH} (a : Addr) : (den W h).load a = cload h a := by
  unfold Heap.load cload
  rw [if_neg (by simp [den_B])]
  cases hs : a.spot with
  | some s => simp
  | none =>
    simp only [if_true, den_blk]
    cases h.tr.get a.block with
    | none => rfl
    | some k =>
      simp only [Option.bind_some]
      cases k.sz <;> simp
def cstore (h : CH) (a : Addr) (v : Value) : Option CH := match a.spot with
  | none => match h.tr.get a.block with
    | some k => match k.sz with
      | 0 => none
      | _ + 1 => if a.off < k.cells.length then some (h.put a.block (k.cells.set a.off v)) else none
    | none => none
  | some _ => none
theorem den_store {W : World} {h : CH} (a : Addr) (v : Value) : (den W h).store a v = (cstore h a v).map (den W) := by
  unfold Heap.store cstore
  rw [if_neg (by simp [den_B])]
  cases hs : a.spot with
  | some s => simp
  | none =>
    simp only [if_true, den_blk]
    cases h.tr.get a.block with
    | none => rfl
    | some k =>
      simp only [Option.bind_some]
      cases k.sz with
      | zero => simp
      | succ n =>
        simp only [Nat.succ_pos, true_and]
        by_cases hl : a.off < k.cells.length
        · simp only [if_pos hl, Option.map_some, den_put]
        · simp only [if_neg hl, Option.map_none]
def cloadN (h : CH) (a : Addr) : Nat → Nat → Option (List Value)
  | _, 0 => some []
  | i, n + 1 => match cload h (a.add i) with
    | some v => match cloadN h a (i + 1) n with
      | some vs => some (v :: vs)
      | none => none
    | none => none
theorem den_loadN {W : World} {h : CH} (a : Addr) : ∀ (n i : Nat), (den W h).loadN a i n = cloadN h a i n
  | 0, i => rfl
  | n + 1, i => by
    simp only [Heap.loadN, cloadN, den_load, den_loadN a n (i + 1)]
    cases cload h (a.add i) with
    | none => rfl
    | some v => cases cloadN h a (i + 1) n <;> rfl
def cstoreN (a : Addr) : Nat → List Value → CH → Option CH
  | _, [], h => some h
  | i, v :: vs, h => match cstore h (a.add i) v with
    | some h' => cstoreN a (i + 1) vs h'
    | none => none
theorem den_storeN {W : World} (a : Addr) : ∀ (vs : List Value) (i : Nat) (h : CH), Heap.storeN a i vs (den W h) = (cstoreN a i vs h).map (den W)
  | [], i, h => rfl
  | v :: vs, i, h => by
    simp only [Heap.storeN, cstoreN, den_store]
    cases cstore h (a.add i) v with
    | none => rfl
    | some h' => simp only [Option.map_some, Option.bind_some]; exact den_storeN a vs (i + 1) h'

/-! ### operations -/
def pd (W : World) (p : Value × CH) : Value × Heap := (p.1, den W p.2)
def cLoad (h : CH) (agg : Bool) (n : Nat) (x : Value) : Option Value :=
  match x with
  | .pointer (some a) => if agg then (cloadN h a 0 n).map (fun xs => .agg xs.toArray) else cload h a
  | _ => none
theorem den_sLoad {W : World} {h : CH} (agg : Bool) (n : Nat) (x : Value) : sLoad (den W h) agg n x = cLoad h agg n x := by
  unfold sLoad cLoad
  split
  · simp only [den_loadN, den_load]
  · rename_i hx; split
    · rename_i a; exact absurd rfl (hx a)
    · rfl
def cStore (h : CH) (n : Nat) (x v : Value) : Option CH :=
  match x with
  | .pointer (some a) => if v.cells.size = n ∧ notTup v = true then cstoreN a 0 v.cells.toList h else none
  | _ => none
theorem den_sStore {W : World} {h : CH} (n : Nat) (x v : Value) : sStore (den W h) n x v = (cStore h n x v).map (den W) := by
  unfold sStore cStore
  split
  · rename_i a
    by_cases hc : v.cells.size = n ∧ notTup v = true
    · simp only [if_pos hc, den_storeN]
    · simp only [if_neg hc, Option.map_none]
  · rename_i hx; split
    · rename_i a; exact absurd rfl (hx a)
    · rfl
def cSrc (h : CH) (sz : Nat) (y : Value) : Option (Nat × List Value) :=
  match y with
  | .slice none 0 _ => some (0, [])
  | .slice (some a) m _ => (cloadN h a 0 (m * sz)).map fun xs => (m, xs)
  | .string s => if sz = 1 then some (s.size, bytesV s) else none
  | _ => none
theorem den_src {W : World} {h : CH} (sz : Nat) (y : Value) : srcCells (den W h) sz y = cSrc h sz y := by
  unfold srcCells cSrc
  split <;> simp only [den_loadN]
def cMake (h : CH) (ety : TypeId) (sz bytes : Nat) (z : List Value) (l c : Value) : Option (Value × CH) :=
  match l, c with
  | .int _ l, .int _ c => if 0 ≤ l ∧ l ≤ c ∧ (bytes : Int) * c ≤ 140737488355328 ∧ c ≤ 9223372036854775807 then some (.slice (some ⟨h.next, 0, none⟩) l.toNat 0, h.new ety sz (zerosA z (l.toNat * sz))) else none
  | _, _ => none
theorem den_make {W : World} {h : CH} (ety : TypeId) (sz bytes : Nat) (z : List Value) (l c : Value) : sMake (den W h) ety sz bytes z l c = (cMake h ety sz bytes z l c).map (pd W) := by
  unfold sMake cMake
  split
  · rename_i k l k' c
    by_cases hc : 0 ≤ l ∧ l ≤ c ∧ (bytes : Int) * c ≤ 140737488355328 ∧ c ≤ 9223372036854775807
    · simp only [if_pos hc, Option.map_some, pd, den_new, den_next]
    · simp only [if_neg hc, Option.map_none]
  · rename_i hx; split
    · rename_i k l k' c; exact absurd rfl (hx _ _ _ _ rfl)
    · rfl
def cToStr (h : CH) (x : Value) : Option Value :=
  match x with
  | .slice none 0 _ => some (.string ByteArray.empty)
  | .slice (some a) n _ => (cloadN h a 0 n).bind fun xs => (byteNums xs).map fun ns => .string (strOfNums ns)
  | _ => none
theorem den_toStr {W : World} {h : CH} (x : Value) : sToStr (den W h) x = cToStr h x := by
  unfold sToStr cToStr
  split <;> simp only [den_loadN]
def cToBytes (h : CH) (ety : TypeId) (x : Value) : Option (Value × CH) :=
  match x with
  | .string s => if s.size ≤ 140737488355328 then some (.slice (some ⟨h.next, 0, none⟩) s.size 0, h.new ety 1 (bytesV s)) else none
  | _ => none
theorem den_toBytes {W : World} {h : CH} (ety : TypeId) (x : Value) : sToBytes (den W h) ety x = (cToBytes h ety x).map (pd W) := by
  unfold sToBytes cToBytes
  split
  · rename_i s
    by_cases hc : s.size ≤ 140737488355328
    · simp only [if_pos hc, Option.map_some, pd, den_new, den_next]
    · simp only [if_neg hc, Option.map_none]
  · rename_i hx; split
    · rename_i a; exact absurd rfl (hx a)
    · rfl
def cAppend (h : CH) (ety : TypeId) (sz bytes : Nat) (x y : Value) : Option (Value × CH) :=
  match cSrc h sz y with
  | none => none
  | some (m, xs) =>
    match x with
    | .slice none 0 0 =>
      if m = 0 then some (.slice none 0 0, h)
      else if m * bytes ≤ 140737488355328 then some (.slice (some ⟨h.next, 0, none⟩) m 0, h.new ety sz xs) else none
    | .slice (some a) n code =>
      if m = 0 then some (x, h)
      else if (n + m) * bytes ≤ 140737488355328 then
        if code = 0 then
          match h.tr.get a.block with
          | some k => if k.ty = ety ∧ k.sz = sz ∧ n * sz ≤ k.cells.length then some (.slice (some ⟨h.next, 0, none⟩) (n + m) 0, (h.kill a.block).new ety sz (k.cells.take (n * sz) ++ xs)) else none
          | none => none
        else if code = 1 then (cloadN h a 0 (n * sz)).map fun olds => (.slice (some ⟨h.next, 0, none⟩) (n + m) 0, h.new ety sz (olds ++ xs))
        else none
      else none
    | _ => none
theorem den_append {W : World} {h : CH} (ety : TypeId) (sz bytes : Nat) (x y : Value) : sAppend (den W h) ety sz bytes x y = (cAppend h ety sz bytes x y).map (pd W) := by
  unfold sAppend cAppend
  rw [den_src]
  cases cSrc h sz y with
  | none => rfl
  | some p =>
    obtain ⟨m, xs⟩ := p
    simp only [Option.bind_some]
    split
    · by_cases h0 : m = 0
      · simp only [if_pos h0, Option.map_some, pd]
      · by_cases h1 : m * bytes ≤ 140737488355328
        · simp only [if_neg h0, if_pos h1, Option.map_some, pd, den_new, den_next]
        · simp only [if_neg h0, if_neg h1, Option.map_none]
    · rename_i a n code
      by_cases h0 : m = 0
      · simp only [if_pos h0, Option.map_some, pd]
      · by_cases h1 : (n + m) * bytes ≤ 140737488355328
        · simp only [if_neg h0, if_pos h1]
          by_cases h2 : code = 0
          · simp only [if_pos h2, den_blk]
            cases h.tr.get a.block with
            | none => rfl
            | some k =>
              simp only [Option.bind_some]
              by_cases h3 : k.ty = ety ∧ k.sz = sz ∧ n * sz ≤ k.cells.length
              · simp only [if_pos h3, Option.map_some, pd, den_kill, den_new, den_next]
              · simp only [if_neg h3, Option.map_none]
          · simp only [if_neg h2]
            by_cases h3 : code = 1
            · simp only [if_pos h3, den_loadN, Option.map_map]
              cases cloadN h a 0 (n * sz) with
              | none => rfl
              | some olds => simp only [Option.map_some, Function.comp, pd, den_new, den_next]
            · simp only [if_neg h3, Option.map_none]
        · simp only [if_neg h0, if_neg h1, Option.map_none]
    · rename_i hx hy
      split
      · exact absurd rfl hx
      · rename_i a n code; exact absurd rfl (hy a n code)
      · rfl
def cCopy (h : CH) (sz : Nat) (x y : Value) : Option (Value × CH) :=
  match cSrc h sz y with
  | none => none
  | some (m, xs) =>
    match x with
    | .slice none 0 _ => some (.int .i64 0, h)
    | .slice (some a) d _ => (cstoreN a 0 (xs.take (min m d * sz)) h).map fun h' => (.int .i64 (min m d : Nat), h')
    | _ => none
theorem den_copy {W : World} {h : CH} (sz : Nat) (x y : Value) : sCopy (den W h) sz x y = (cCopy h sz x y).map (pd W) := by
  unfold sCopy cCopy
  rw [den_src]
  cases cSrc h sz y with
  | none => rfl
  | some p =>
    obtain ⟨m, xs⟩ := p
    simp only [Option.bind_some]
    split
    · rfl
    · rename_i a d c
      simp only [den_storeN, Option.map_map]
      cases cstoreN a 0 (xs.take (min m d * sz)) h <;> rfl
    · rename_i hx hy
      split
      · rename_i c; exact absurd rfl (hx c)
      · rename_i a n code; exact absurd rfl (hy a n code)
      · rfl
def cMark (h : CH) (x : Value) : Option Value :=
  match x with
  | .slice (some a) n code => match h.tr.get a.block with
    | some k => if 0 < k.sz ∧ (code = 0 ∨ 0 < n) then some x else none
    | none => none
  | _ => none
theorem den_mark {W : World} {h : CH} (x : Value) : sMark (den W h) x = cMark h x := by
  unfold sMark cMark
  split
  · rename_i a n code
    simp only [den_B, Nat.not_lt_zero, not_false_eq_true, true_and, den_blk]
    cases h.tr.get a.block with
    | none => simp
    | some k => simp only [Option.any_some, decide_eq_true_eq]
  · rename_i hx; split
    · rename_i a n code; exact absurd rfl (hx a n code)
    · rfl
def cmapAt (h : CH) (m : Nat) : Option (Nat × List MEnt) := match h.tr.get m with
  | some k => if k.sz = 0 ∧ k.ty = 0 then mdec k.cells else none
  | none => none
theorem den_mapAt {W : World} {h : CH} (m : Nat) : (den W h).mapAt m = cmapAt h m := by
  unfold Heap.mapAt cmapAt
  rw [if_neg (by simp [den_B]), den_blk]
  cases h.tr.get m <;> rfl
def cLookup (h : CH) (d : TypeDesc) (z : Value) (comma : Bool) (x k : Value) : Option Value :=
  if keyOk d k then match x with
    | .map none => some (mFin comma z false)
    | .map (some m) => (cmapAt h m).bind fun p => (mfind d k p.2 0).map fun r => match r with | some q => mFin comma q.2 true | none => mFin comma z false
    | _ => none
  else none
theorem den_lookup {W : World} {h : CH} (d : TypeDesc) (z : Value) (comma : Bool) (x k : Value) : sLookup (den W h) d z comma x k = cLookup h d z comma x k := by
  unfold sLookup cLookup
  split
  · split <;> first | rfl | (simp only [den_mapAt]; done) | (simp only [den_mapAt]; rfl)
  · rfl
def cLenM (h : CH) (x : Value) : Option Value :=
  match x with
  | .map none => some (.int .i64 0)
  | .map (some m) => (cmapAt h m).map fun p => .int .i64 (p.2.length : Nat)
  | _ => none
theorem den_lenM {W : World} {h : CH} (x : Value) : sLenM (den W h) x = cLenM h x := by
  unfold sLenM cLenM
  split <;> simp only [den_mapAt]
def cMapUpdate (h : CH) (d : TypeDesc) (x k v : Value) : Option CH :=
  if keyOk d k = true ∧ notTup v = true then match x with
    | .map (some m) => (cmapAt h m).bind fun p => (mfind d k p.2 0).map fun r => match r with
      | some q => h.put m (mcells p.1 (p.2.modify q.1 fun e => { e with key := k, val := v }))
      | none => h.put m (mcells (p.1 + 1) (p.2 ++ [⟨k, v, p.1⟩]))
    | _ => none
  else none
theorem den_mapUpdate {W : World} {h : CH} (d : TypeDesc) (x k v : Value) : sMapUpdate (den W h) d x k v = (cMapUpdate h d x k v).map (den W) := by
  unfold sMapUpdate cMapUpdate
  split
  · split
    · simp only [den_mapAt]
      rename_i m
      cases cmapAt h m with
      | none => rfl
      | some p =>
        simp only [Option.bind_some]
        cases mfind d k p.2 0 with
        | none => rfl
        | some r => cases r <;> simp only [Option.map_some, den_put]
    · rename_i hx; split
      · exact (hx _ rfl).elim
      · rfl
  · rfl
def cMapEntry (h : CH) (d : TypeDesc) (z : Value) (x k : Value) : Option (Value × CH) :=
  if keyOk d k then match x with
    | .map (some m) => (cmapAt h m).bind fun p => (mfind d k p.2 0).bind fun r => match r with
      | some q => (p.2[q.1]?).map fun e => (.tuple #[q.2, .int .i64 e.born], h.put m (mcells p.1 (p.2.modify q.1 fun e => { e with key := k })))
      | none => some (.tuple #[z, .int .i64 p.1], h.put m (mcells (p.1 + 1) (p.2 ++ [⟨k, z, p.1⟩])))
    | _ => none
  else none
theorem den_mapEntry {W : World} {h : CH} (d : TypeDesc) (z x k : Value) : sMapEntry (den W h) d z x k = (cMapEntry h d z x k).map (pd W) := by
  unfold sMapEntry cMapEntry
  split
  · split
    · simp only [den_mapAt]
      rename_i m
      cases cmapAt h m with
      | none => rfl
      | some p =>
        simp only [Option.bind_some]
        cases mfind d k p.2 0 with
        | none => rfl
        | some r =>
          cases r with
          | none => simp only [Option.bind_some, Option.map_some, pd, den_put]
          | some q =>
            simp only [Option.bind_some]
            cases p.2[q.1]? <;> simp only [Option.map_none, Option.map_some, pd, den_put]
    · rename_i hx; split
      · exact (hx _ rfl).elim
      · rfl
  · rfl
def cEntryStore (h : CH) (x s v : Value) : Option CH :=
  if notTup v = true then match x, s with
    | .map (some m), .int _ b => (cmapAt h m).bind fun p => (p.2.findIdx? (fun e => (e.born : Int) == b)).map fun i => h.put m (mcells p.1 (p.2.modify i fun e => { e with val := v }))
    | _, _ => none
  else none
theorem den_entryStore {W : World} {h : CH} (x s v : Value) : sEntryStore (den W h) x s v = (cEntryStore h x s v).map (den W) := by
  unfold sEntryStore cEntryStore
  split
  · split
    · simp only [den_mapAt]
      rename_i m k b
      cases cmapAt h m with
      | none => rfl
      | some p =>
        simp only [Option.bind_some]
        cases p.2.findIdx? (fun e => (e.born : Int) == b) <;> simp only [Option.map_none, Option.map_some, den_put]
    · rename_i hx; split
      · exact (hx _ _ _ rfl rfl).elim
      · rfl
  · rfl
def cDelete (h : CH) (d : TypeDesc) (x k : Value) : Option CH :=
  if keyOk d k then match x with
    | .map none => some h
    | .map (some m) => (cmapAt h m).bind fun p => (mfind d k p.2 0).map fun r => match r with
      | some q => h.put m (mcells p.1 (p.2.eraseIdx q.1))
      | none => h.put m (mcells p.1 p.2)
    | _ => none
  else none
theorem den_delete {W : World} {h : CH} (d : TypeDesc) (x k : Value) : sDelete (den W h) d x k = (cDelete h d x k).map (den W) := by
  unfold sDelete cDelete
  split
  · split
    · rfl
    · simp only [den_mapAt]
      rename_i m
      cases cmapAt h m with
      | none => rfl
      | some p =>
        simp only [Option.bind_some]
        cases mfind d k p.2 0 with
        | none => rfl
        | some r => cases r <;> simp only [Option.map_some, den_put]
    · rename_i hx hy; split
      · exact (hx rfl).elim
      · exact (hy _ rfl).elim
      · rfl
  · rfl
def cClear (h : CH) (sz : Nat) (z : List Value) (x : Value) : Option CH :=
  match x with
  | .slice none _ _ => some h
  | .slice (some a) n _ => if n = 0 then some h else cstoreN a 0 (zerosA z (n * sz)) h
  | _ => none
theorem den_clear {W : World} {h : CH} (sz : Nat) (z : List Value) (x : Value) : sClear (den W h) sz z x = (cClear h sz z x).map (den W) := by
  unfold sClear cClear
  split
  · rfl
  · rename_i a n c
    by_cases h0 : n = 0
    · simp only [if_pos h0, Option.map_some]
    · simp only [if_neg h0, den_storeN]
  · rename_i hx hy
    split
    · rename_i n c; exact absurd rfl (hx n c)
    · rename_i a n code; exact absurd rfl (hy a n code)
    · rfl
def nilH : Heap := { base := ⟨default, 0⟩, next := 0, blk := fun _ => none }
def citerAt (h : CH) (b : Nat) : Option Itr := match h.tr.get b with | some k => if k.sz = 0 ∧ k.ty = 2 then idec k.cells else none | none => none
theorem den_iterAt {W : World} {h : CH} (b : Nat) : (den W h).iterAt b = citerAt h b := by
  unfold Heap.iterAt citerAt
  rw [den_B, if_neg (by omega), den_blk]
  cases h.tr.get b <;> rfl
def cRange (h : CH) (x : Value) : Option (Value × CH) := match x with
  | .map none => some (.pointer (some ⟨h.next, 0, none⟩), h.new 2 0 (icells none 0 [] 0))
  | .map (some m) => (cmapAt h m).map fun p => (.pointer (some ⟨h.next, 0, none⟩), h.new 2 0 (icells (some m) p.1 [] p.1))
  | _ => none
theorem den_range {W : World} {h : CH} (x : Value) : sRange (den W h) x = (cRange h x).map (pd W) := by
  unfold sRange cRange
  split
  · simp only [den_new, den_next, Option.map_some, pd]
  · simp only [den_mapAt, den_new, den_next]
    rename_i m
    cases cmapAt h m <;> simp only [Option.map_none, Option.map_some, pd]
  · rename_i h1 h2
    split
    · exact absurd rfl h1
    · exact absurd rfl (h2 _)
    · rfl
def cNext (h : CH) (x : Value) : Option (Value × CH) := match x with
  | .pointer (some a) => if a.off = 0 ∧ a.spot = none then (citerAt h a.block).bind fun q => match q.om with
      | none => some (.tuple #[.bool false], h)
      | some m => (cmapAt h m).bind fun p => if q.ok p.2 = true then match q.left p.2 with
        | [] => some (.tuple #[.bool false], h)
        | [e] => if e.born < q.since then some (.tuple #[.bool true, e.key, e.val], h.put a.block (icells q.om q.since (q.seen ++ [e.born]) p.1)) else none
        | _ => none
        else none
    else none
  | _ => none
theorem den_next' {W : World} {h : CH} (x : Value) : sNext (den W h) x = (cNext h x).map (pd W) := by
  unfold sNext cNext
  split
  · simp only
    split
    · rename_i a _
      rw [den_iterAt]
      cases citerAt h a.block with
      | none => rfl
      | some q =>
        simp only [Option.bind_some]
        cases hq : q.om with
        | none => rfl
        | some m =>
          simp only [den_mapAt]
          cases cmapAt h m with
          | none => rfl
          | some p =>
            simp only [Option.bind_some]
            split
            · cases q.left p.2 with
              | nil => rfl
              | cons e l =>
                cases l with
                | nil => simp only; split <;> simp only [Option.map_some, Option.map_none, pd, den_put]
                | cons _ _ => rfl
            · rfl
    · rfl
  · rename_i hx
    split
    · exact absurd rfl (hx _)
    · rfl
def cEntry (h : CH) (x : Value) : Option Value := match x with
  | .pointer (some a) => if a.off = 0 ∧ a.spot = none then (citerAt h a.block).bind fun q => match q.om with
      | none => none
      | some m => (cmapAt h m).bind fun p => if p.1 = q.last then (q.seen.getLast?).bind fun s => (p.2.find? fun e => e.born == s).map fun e => .tuple #[e.key, e.val] else none
    else none
  | _ => none
theorem den_entry {W : World} {h : CH} (x : Value) : sEntry (den W h) x = cEntry h x := by
  unfold sEntry cEntry
  split
  · simp only [den_iterAt, den_mapAt]
    rfl
  · rename_i hx
    split
    · exact absurd rfl (hx _)
    · rfl
/-- One operation (calls apart). -/
def cstep (h : CH) (t : Tm) (op : LOp) : Option (Value × CH) :=
  match op with
  | .new ty sz z => some (.pointer (some ⟨h.next, 0, none⟩), h.new ty sz z)
  | .box ty sz x => if notTup (ev t x) = true ∧ (ev t x).cells.size = sz then some (.pointer (some ⟨h.next, 0, none⟩), h.new ty sz (ev t x).cells.toList) else none
  | .buildSlice ety sz len z ps => match fillA (zerosA z (len * sz)) (evParts t ps) with
    | some out => if out.length = len * sz then some (.slice (some ⟨h.next, 0, none⟩) len 0, h.new ety sz out) else none
    | none => none
  | .load agg n x => match cLoad h agg n (ev t x) with | some v => some (v, h) | none => none
  | .store n a x => match cStore h n (ev t a) (ev t x) with | some h' => some (undef, h') | none => none
  | .toStr x => match cToStr h (ev t x) with | some v => some (v, h) | none => none
  | .toBytes ety x => cToBytes h ety (ev t x)
  | .mark x => match cMark h (ev t x) with | some v => some (v, h) | none => none
  | .make ety sz bytes z l c => cMake h ety sz bytes z (ev t l) (ev t c)
  | .append ety sz bytes x y => cAppend h ety sz bytes (ev t x) (ev t y)
  | .copy sz x y => cCopy h sz (ev t x) (ev t y)
  | .makeMap => some (.map (some h.next), h.new 0 0 (mcells 0 []))
  | .lookup d z c x i => match cLookup h d z c (ev t x) (ev t i) with | some v => some (v, h) | none => none
  | .lenM x => match cLenM h (ev t x) with | some v => some (v, h) | none => none
  | .rangeM x => cRange h (ev t x)
  | .nextM x => cNext h (ev t x)
  | .entryM x => match cEntry h (ev t x) with | some v => some (v, h) | none => none
  | .mapUpdate d x k v => match cMapUpdate h d (ev t x) (ev t k) (ev t v) with | some h' => some (undef, h') | none => none
  | .mapEntry d z x k => cMapEntry h d z (ev t x) (ev t k)
  | .entryStore x s v => match cEntryStore h (ev t x) (ev t s) (ev t v) with | some h' => some (undef, h') | none => none
  | .delete d x k => match cDelete h d (ev t x) (ev t k) with | some h' => some (undef, h') | none => none
  | .clear sz z x => match cClear h sz z (ev t x) with | some h' => some (undef, h') | none => none
  | .eqR _ _ _ _ | .call _ _ | .callv _ _ | .invoke _ _ _ => none
  | op => match step nilH t op with | some p => some (p.1, h) | none => none
theorem pure_cstep {P : Program} {W : World} {h : CH} {t : Tm} {op : LOp} (hp : isPure op = true) (hc : isCall op = false) {v : Value} {h' : CH} (hs : (match step nilH t op with | some p => some (p.1, h) | none => none) = some (v, h')) :
    step (den W h) t op = some (v, den W h') := by
  cases hst : step nilH t op with
  | none => simp [hst] at hs
  | some p =>
    obtain ⟨u, H1⟩ := p
    simp only [hst, Option.some.injEq, Prod.mk.injEq] at hs
    obtain ⟨rfl, rfl⟩ := hs
    have e := pure_same hp hst
    subst e
    have hd : Do P t nilH op u nilH := by
      cases op <;> first | exact hst | cases hc
    have := pure_any (H2 := den W h) hp hd
    cases op <;> first | exact this | cases hc
theorem cstep_sound {P : Program} {W : World} {h h' : CH} {t : Tm} {op : LOp} {v : Value} (hs : cstep h t op = some (v, h')) : step (den W h) t op = some (v, den W h') := by
  cases op
  case new ty sz z => simp only [cstep, Option.some.injEq, Prod.mk.injEq] at hs; obtain ⟨rfl, rfl⟩ := hs; simp only [step, den_new, den_next]
  case box ty sz x =>
    simp only [cstep] at hs
    split at hs
    · rename_i hc; cases hs; simp only [step, if_pos hc, den_new, den_next]
    · cases hs
  case buildSlice ety sz len z ps =>
    simp only [cstep] at hs
    split at hs
    · rename_i out hout
      split at hs
      · rename_i hl; cases hs; simp only [step, hout, Option.bind_some, if_pos hl, den_new, den_next]
      · cases hs
    · cases hs
  case load agg n x =>
    simp only [cstep] at hs
    split at hs
    · rename_i u hu; cases hs; simp only [step, den_sLoad, hu, Option.map_some]
    · cases hs
  case store n a x =>
    simp only [cstep] at hs
    split at hs
    · rename_i u hu; cases hs; simp only [step, den_sStore, hu, Option.map_some]
    · cases hs
  case toStr x =>
    simp only [cstep] at hs
    split at hs
    · rename_i u hu; cases hs; simp only [step, den_toStr, hu, Option.map_some]
    · cases hs
  case toBytes ety x => simp only [cstep] at hs; simp only [step, den_toBytes, hs, Option.map_some, pd]
  case mark x =>
    simp only [cstep] at hs
    split at hs
    · rename_i u hu; cases hs; simp only [step, den_mark, hu, Option.map_some]
    · cases hs
  case make ety sz bytes z l c => simp only [cstep] at hs; simp only [step, den_make, hs, Option.map_some, pd]
  case append ety sz bytes x y => simp only [cstep] at hs; simp only [step, den_append, hs, Option.map_some, pd]
  case copy sz x y => simp only [cstep] at hs; simp only [step, den_copy, hs, Option.map_some, pd]
  case makeMap => simp only [cstep, Option.some.injEq, Prod.mk.injEq] at hs; obtain ⟨rfl, rfl⟩ := hs; simp only [step, den_new, den_next]
  case lookup d z c x i =>
    simp only [cstep] at hs
    split at hs
    · rename_i u hu; cases hs; simp only [step, den_lookup, hu, Option.map_some]
    · cases hs
  case lenM x =>
    simp only [cstep] at hs
    split at hs
    · rename_i u hu; cases hs; simp only [step, den_lenM, hu, Option.map_some]
    · cases hs
  case mapUpdate d x k u =>
    simp only [cstep] at hs
    split at hs
    · rename_i u hu; cases hs; simp only [step, den_mapUpdate, hu, Option.map_some]
    · cases hs
  case mapEntry d z x k => simp only [cstep] at hs; simp only [step, den_mapEntry, hs, Option.map_some, pd]
  case entryStore x k u =>
    simp only [cstep] at hs
    split at hs
    · rename_i u hu; cases hs; simp only [step, den_entryStore, hu, Option.map_some]
    · cases hs
  case delete d x k =>
    simp only [cstep] at hs
    split at hs
    · rename_i u hu; cases hs; simp only [step, den_delete, hu, Option.map_some]
    · cases hs
  case clear sz z x =>
    simp only [cstep] at hs
    split at hs
    · rename_i u hu; cases hs; simp only [step, den_clear, hu, Option.map_some]
    · cases hs
  case eqR => cases hs
  case call => cases hs
  case callv => cases hs
  case invoke => cases hs
  case panic => simp [cstep, step] at hs
  case rangeM x => simp only [cstep] at hs; simp only [step, den_range, hs, Option.map_some, pd]
  case nextM x => simp only [cstep] at hs; simp only [step, den_next', hs, Option.map_some, pd]
  case entryM x =>
    simp only [cstep] at hs
    split at hs
    · rename_i u hu; cases hs; simp only [step, den_entry, hu, Option.map_some]
    · cases hs
  all_goals exact pure_cstep (P := P) rfl rfl hs
end Go.Ot
