/-
  Part D: operations on memory.
-/
import Derived.Test.YtfmcnojojknkfaaOtC
set_option linter.unusedVariables false
set_option linter.unusedSimpArgs false
namespace Go.Ot
open Go.RowKit

/-- So many cells from a place on. -/
def Heap.loadN (H : Heap) (a : Addr) : Nat → Nat → Option (List Value)
  | _, 0 => some []
  | i, n + 1 => (H.load (a.add i)).bind fun v => (H.loadN a (i + 1) n).map (v :: ·)
def Heap.storeN (a : Addr) : Nat → List Value → Heap → Option Heap
  | _, [], H => some H
  | i, v :: vs, H => (H.store (a.add i) v).bind fun H' => Heap.storeN a (i + 1) vs H'
theorem Addr.add_zero' (a : Addr) : a.add 0 = a := by simp [Addr.add]
theorem Heap.loadN_length {H : Heap} {a : Addr} : ∀ {n i : Nat} {xs : List Value}, H.loadN a i n = some xs → xs.length = n
  | 0, i, xs, h => by simp [Heap.loadN] at h; subst h; rfl
  | n + 1, i, xs, h => by
    simp only [Heap.loadN] at h
    cases hv : H.load (a.add i) with
    | none => simp [hv] at h
    | some v =>
      cases hr : H.loadN a (i + 1) n with
      | none => simp [hv, hr] at h
      | some ys => simp [hv, hr] at h; subst h; simp [Heap.loadN_length hr]

namespace Rep
variable {H : Heap} {ρ : Nat → Nat × Nat} {w : World}
theorem loadN (h : Rep H ρ w) {a : Addr} : ∀ {n i : Nat} {xs : List Value}, (H.cx ρ).ok a → H.loadN a i n = some xs →
    ∃ cs, All2 (r1 (H.cx ρ)) xs cs ∧ ∀ j v, cs[j]? = some v → w.cell? (((H.cx ρ).addr a).add (i + j)) = some v
  | 0, i, xs, _, hl => by simp [Heap.loadN] at hl; subst hl; exact ⟨[], .nil, by simp⟩
  | n + 1, i, xs, ha, hl => by
    simp only [Heap.loadN] at hl
    cases hv : H.load (a.add i) with
    | none => simp [hv] at hl
    | some v =>
      cases hr : H.loadN a (i + 1) n with
      | none => simp [hv, hr] at hl
      | some ys =>
        simp [hv, hr] at hl; subst hl
        obtain ⟨_, v', hc, hr1⟩ := h.load hv
        obtain ⟨cs, hcs, hcell⟩ := h.loadN ha hr
        refine ⟨v' :: cs, .cons hr1 hcs, ?_⟩
        intro j u hu
        cases j with
        | zero => simp at hu; subst hu; rw [Nat.add_zero, (Cx.addr_add i ha).2]; exact hc
        | succ j => simp at hu; have := hcell j u hu; rw [show i + (j + 1) = i + 1 + j by omega]; exact this
theorem ok_of_loadN (h : Rep H ρ w) {a : Addr} {n : Nat} {xs : List Value} (hn : 0 < n) (hl : H.loadN a 0 n = some xs) : (H.cx ρ).ok a := by
  cases n with
  | zero => omega
  | succ n =>
    simp only [Heap.loadN, Addr.add_zero'] at hl
    cases hv : H.load a with
    | none => simp [hv] at hl
    | some v => exact (h.load hv).1
theorem storeN {a : Addr} {P : Program} : ∀ {vs vs' : List Value} {i : Nat} {H H' : Heap} {w : World}, Rep H ρ w → (H.cx ρ).ok a → Heap.storeN a i vs H = some H' → All2 (r1 (H.cx ρ)) vs vs' →
    ∃ w', (storeCells ((H.cx ρ).addr a) vs' i).run P w = .ok () w' ∧ Rep H' ρ w' ∧ H'.base = H.base ∧ H'.next = H.next
  | [], vs', i, H, H', w, hR, _, hs, hr => by
    cases hr; simp [Heap.storeN] at hs; subst hs
    exact ⟨w, rfl, hR, rfl, rfl⟩
  | v :: vs, vs', i, H, H', w, hR, ha, hs, hr => by
    cases hr with
    | cons hv hvs =>
      rename_i v' vs'
      simp only [Heap.storeN] at hs
      cases h1 : H.store (a.add i) v with
      | none => simp [h1] at hs
      | some H1 =>
        simp only [h1, Option.bind_some] at hs
        obtain ⟨_, ⟨u, hu⟩, hf, hR1, hb1, hn1⟩ := hR.store h1 hv
        have hcx : H1.cx ρ = H.cx ρ := by simp [Heap.cx, Heap.B, Heap.N, hb1, hn1]
        have hvs' : All2 (r1 (H1.cx ρ)) vs vs' := by rw [hcx]; exact hvs
        obtain ⟨w', hrun, hR', hb', hn'⟩ := storeN (P := P) hR1 (by rw [hcx]; exact ha) hs hvs'
        refine ⟨w', ?_, hR', hb'.trans hb1, hn'.trans hn1⟩
        have hst : (Go.store (((H.cx ρ).addr a).add i) v').run P w = .ok () (w.setCell ((H.cx ρ).addr (a.add i)) v') := by
          rw [(Cx.addr_add i ha).2, run_store P w _ v' _ (r1_oneCell hv), hu]
          simp [hf]
        simp only [storeCells, Sem.run_bind, hst, Result.andThen_ok]
        rw [hcx] at hrun
        exact hrun
theorem storeN_nil_ok : True := trivial
end Rep

/-! ### load, store -/
/-- A variable of type t is read: one cell, or so many. -/
def sLoad (H : Heap) (agg : Bool) (n : Nat) (x : Value) : Option Value :=
  match x with
  | .pointer (some a) => if agg then (H.loadN a 0 n).map (fun xs => .agg xs.toArray) else H.load a
  | _ => none
def notTup : Value → Bool | .tuple _ => false | _ => true
theorem notTup_ne {v : Value} (h : notTup v = true) (vs : Array Value) : v ≠ .tuple vs := by rintro rfl; cases h
def sStore (H : Heap) (n : Nat) (x v : Value) : Option Heap :=
  match x with
  | .pointer (some a) => if v.cells.size = n ∧ notTup v = true then Heap.storeN a 0 v.cells.toList H else none
  | _ => none
def aggOf (d : TypeDesc) : Bool := match d with | .struct _ | .array _ _ => true | _ => false
theorem run_isAgg {P : Program} {w : World} {t : TypeId} {d : TypeDesc} (hd : P.underlying t = some d) : (isAgg t).run P w = .ok (aggOf d) w := by
  unfold isAgg
  rw [Sem.run_bind, run_underlying hd, Result.andThen_ok]
  cases d <;> rfl
theorem run_sizeOf {P : Program} {w : World} {t : TypeId} {i : TypeInfo} (hi : P.info? t = some i) : (sizeOf t).run P w = .ok i.size w := by
  simp [sizeOf, typeInfo, hi]
theorem r3_ptr {c : Cx} {a : Addr} {v' : Value} (h : r3 c (.pointer (some a)) v') : c.ok a ∧ v' = .pointer (some (c.addr a)) := h
theorem load_same {P : Program} {H : Heap} {ρ : Nat → Nat × Nat} {w : World} (hR : Rep H ρ w) {t : TypeId} {d : TypeDesc} {i : TypeInfo} (hd : P.underlying t = some d) (hi : P.info? t = some i)
    {x x' v : Value} (hx : r3 (H.cx ρ) x x') (hs : sLoad H (aggOf d) i.size x = some v) (hpos : 0 < i.size) : ∃ v', (Instr.loadAt t x').run P w = .ok v' w ∧ r3 (H.cx ρ) v v' := by
  unfold sLoad at hs
  split at hs
  · rename_i a
    obtain ⟨ha, rfl⟩ := r3_ptr hx
    have hrun : (Instr.loadAt t (.pointer (some ((H.cx ρ).addr a)))).run P w = (loadVar t ((H.cx ρ).addr a)).run P w := by
      simp [Instr.loadAt, Instr.sureAddr]
    split at hs
    · rename_i hagg
      cases hl : H.loadN a 0 i.size with
      | none => simp [hl] at hs
      | some xs =>
        simp [hl] at hs; subst hs
        obtain ⟨cs, hcs, hcell⟩ := hR.loadN ha hl
        have hlen : cs.length = i.size := by rw [← hcs.length, Heap.loadN_length hl]
        have hlc := run_loadCells_list (P := P) w ((H.cx ρ).addr a) cs (fun j v hj => by simpa using hcell j v hj)
        refine ⟨.agg cs.toArray, ?_, ⟨cs.toArray, rfl, by simpa using hcs⟩⟩
        rw [hrun]
        unfold loadVar
        rw [Sem.run_bind, run_isAgg hd, Result.andThen_ok]
        rw [hagg, if_pos rfl, Sem.run_bind, run_sizeOf hi, Result.andThen_ok, Sem.run_bind, ← hlen, hlc]
        rfl
    · rename_i hagg
      obtain ⟨_, v', hc, hr⟩ := hR.load hs
      refine ⟨v', ?_, r3_of_r1 hr⟩
      rw [hrun]
      unfold loadVar
      rw [Sem.run_bind, run_isAgg hd, Result.andThen_ok]
      rw [if_neg hagg]
      simp [hc]
  · cases hs
theorem stp_load {P : Program} {H : Heap} {ρ : Nat → Nat × Nat} {w : World} (hR : Rep H ρ w) {t : TypeId} {d : TypeDesc} {i : TypeInfo} (hd : P.underlying t = some d) (hi : P.info? t = some i)
    {x x' v : Value} (hx : r3 (H.cx ρ) x x') (hs : sLoad H (aggOf d) i.size x = some v) (hpos : 0 < i.size) : Stp P H ρ w (Instr.loadAt t x') v H := by
  obtain ⟨v', h1, h2⟩ := load_same (P := P) hR hd hi hx hs hpos
  exact Stp.same hR h1 h2
theorem stp_store {P : Program} {H H' : Heap} {ρ : Nat → Nat × Nat} {w : World} (hR : Rep H ρ w) {t : TypeId} {i : TypeInfo} (hi : P.info? t = some i)
    {x x' v v' : Value} (hx : r3 (H.cx ρ) x x') (hv : r3 (H.cx ρ) v v') (hs : sStore H i.size x v = some H') :
    ∃ w', (Instr.storeAt t x' v').run P w = .ok () w' ∧ Rep H' ρ w' ∧ H'.base = H.base ∧ H'.next = H.next := by
  unfold sStore at hs
  split at hs
  · rename_i a
    obtain ⟨ha, rfl⟩ := r3_ptr hx
    split at hs
    · rename_i hc
      have hcells := r2_cells (r2_of_r3 (notTup_ne hc.2) hv)
      obtain ⟨w', hrun, hR', hb, hn⟩ := hR.storeN (P := P) ha hs hcells
      refine ⟨w', ?_, hR', hb, hn⟩
      have hsz : v'.cells.size = i.size := by
        have := hcells.length
        simp at this
        rw [← this]; exact hc.1
      simp [Instr.storeAt, Instr.sureAddr, storeVar, sizeOf, typeInfo, hi, hsz]
      exact hrun
    · cases hs
  · cases hs

/-! ### new memory -/
theorem free00 (n : Nat) : Free n (0, 0) := .inl rfl
/-- A variable: its cells are those of a value. -/
theorem stp_newVar {P : Program} {H : Heap} {ρ : Nat → Nat × Nat} {w : World} (hR : Rep H ρ w) (ty : TypeId) {v v' : Value} (hv : r2 (H.cx ρ) v v') (sz : Nat) (hsz : v.cells.size = sz) (hpos : 0 < sz) :
    Stp P H ρ w (do pure (.pointer (some (← newVar ty v')))) (.pointer (some ⟨H.next, 0, none⟩)) (H.new ty sz v.cells.toList) := by
  have hcells := r2_cells hv
  have hlen := hcells.length
  simp at hlen
  have hR' := hR.alloc ty sz hpos v.cells.toList v'.cells (0, 0) 1 (by simp [maxLen]) (free00 _) (by omega) (by
    have : v.cells.toList.length = v'.cells.toList.length := hcells.length
    rw [this, List.take_length]; exact hcells)
  refine ⟨_, .pointer (some ⟨w.heap.size, 0, none⟩), _, ?_, ?_, hR', le_new H ρ _ _ _ _⟩
  · simp [newVar, newRow]
  · have hn : ¬ H.next < H.B := by have := hR.next; omega
    refine ⟨.inr ⟨Nat.lt_succ_self _, rfl⟩, ?_⟩
    simp [Cx.addr, Heap.cx, Heap.new, Heap.B, up_self]
    have : ¬ H.next < H.base.lim := hn
    simp [this]
theorem stp_alloc {P : Program} {H : Heap} {ρ : Nat → Nat × Nat} {w : World} (hR : Rep H ρ w) (ty : TypeId) {i : TypeInfo} {z : Value} (hi : P.info? ty = some i) (hz : i.zero = some z) (hp : plain2 z = true) (hsz : z.cells.size = i.size) (hpos : 0 < i.size) :
    Stp P H ρ w (Instr.alloc ty true (.tuple #[])) (.pointer (some ⟨H.next, 0, none⟩)) (H.new ty i.size z.cells.toList) := by
  obtain ⟨ρ', v', w', hrun, h1, h2, h3⟩ := stp_newVar (P := P) hR ty (plain2_self (c := H.cx ρ) hp) i.size hsz hpos
  refine ⟨ρ', v', w', ?_, h1, h2, h3⟩
  rw [← hrun]
  simp [Instr.alloc, zeroValue, typeInfo, hi, hz]
/-- A variable of no size: a block of one cell that has none. -/
theorem stp_alloc0 {P : Program} {H : Heap} {ρ : Nat → Nat × Nat} {w : World} (hR : Rep H ρ w) (ty : TypeId) {i : TypeInfo} {z : Value} (hi : P.info? ty = some i) (hz : i.zero = some z) (hc : z.cells = #[]) :
    Stp P H ρ w (Instr.alloc ty true (.tuple #[])) (.pointer (some ⟨H.next, 0, none⟩)) (H.new ty 1 []) := by
  have hR' := hR.alloc ty 1 (by decide) [] #[] (0, 0) 0 (by simp [maxLen]) (free00 _) rfl .nil
  refine ⟨_, .pointer (some ⟨w.heap.size, 0, none⟩), _, ?_, ?_, hR', le_new H ρ _ _ _ _⟩
  · simp [Instr.alloc, zeroValue, typeInfo, hi, hz, newVar, newRow, hc]
  · have hn : ¬ H.next < H.B := by have := hR.next; omega
    refine ⟨.inr ⟨Nat.lt_succ_self _, rfl⟩, ?_⟩
    simp [Cx.addr, Heap.cx, Heap.new, Heap.B, up_self]
    have : ¬ H.next < H.base.lim := hn
    simp [this]
theorem stp_box {P : Program} {H : Heap} {ρ : Nat → Nat × Nat} {w : World} (hR : Rep H ρ w) (ty : TypeId) {v v' : Value} (hv : r3 (H.cx ρ) v v') (hnt : notTup v = true) (sz : Nat) (hsz : v.cells.size = sz) (hpos : 0 < sz) :
    Stp P H ρ w (Instr.box ty v') (.pointer (some ⟨H.next, 0, none⟩)) (H.new ty sz v.cells.toList) :=
  stp_newVar hR ty (r2_of_r3 (notTup_ne hnt) hv) sz hsz hpos

/-! ### addresses -/
def sOff (k : Nat) (x : Value) : Option Value :=
  match x with
  | .pointer (some a) => some (.pointer (some (a.add k)))
  | _ => none
theorem r3_ptr_add {c : Cx} {a : Addr} (k : Nat) (h : c.ok a) : r3 c (.pointer (some (a.add k))) (.pointer (some ((c.addr a).add k))) := by
  obtain ⟨h1, h2⟩ := Cx.addr_add k h
  exact ⟨h1, by rw [h2]⟩
theorem stp_off {P : Program} {H : Heap} {ρ : Nat → Nat × Nat} {w : World} (hR : Rep H ρ w) {s : TypeId} {fs : Array Field} {f : Nat} {fd : Field} {i : TypeInfo} (hs : P.underlying s = some (.struct fs)) (hf : fs[f]? = some fd) (hi : P.info? fd.type = some i) (hpos : 0 < i.size)
    {x x' v : Value} (hx : r3 (H.cx ρ) x x') (ho : sOff fd.offset x = some v) : Stp P H ρ w (Instr.fieldAt s x' f) v H := by
  unfold sOff at ho
  split at ho
  · rename_i a
    cases ho
    obtain ⟨ha, rfl⟩ := r3_ptr hx
    refine Stp.same hR ?_ (r3_ptr_add fd.offset ha)
    have h0 : ¬ i.size = 0 := by omega
    simp [Instr.fieldAt, run_underlying hs, hf, Instr.sureAddr, fieldPlace, sizeOf, typeInfo, hi, h0]
  · cases ho
/-- The address of a slice's element. -/
def sIdx (sz : Nat) (x i : Value) : Option Value :=
  match x, i with
  | .slice (some a) len _, .int _ n => if 0 ≤ n ∧ n < len then some (.pointer (some (a.add (n.toNat * sz)))) else none
  | _, _ => none
theorem r3_int {c : Cx} {k : IntKind} {n : Int} {v' : Value} (h : r3 c (.int k n) v') : v' = .int k n := h
theorem stp_idx {P : Program} {H : Heap} {ρ : Nat → Nat × Nat} {w : World} (hR : Rep H ρ w) {t e : TypeId} {i : TypeInfo} (ht : P.underlying t = some (.slice e)) (hi : P.info? e = some i)
    {x x' n n' v : Value} (hx : r3 (H.cx ρ) x x') (hn : r3 (H.cx ρ) n n') (ho : sIdx i.size x n = some v) : Stp P H ρ w (Instr.indexAt t x' n') v H := by
  unfold sIdx at ho
  split at ho
  · rename_i a len cap k q
    split at ho
    · rename_i hb
      cases ho
      have hn' := r3_int hn
      subst hn'
      simp only [r3, r2, r1, r0] at hx
      obtain ⟨hok, a', cap', rfl, hle, hoff, _, _⟩ := hx
      have hlen : 0 < len := by omega
      have ho := hoff hlen
      subst ho
      refine Stp.same hR ?_ (r3_ptr_add (q.toNat * i.size) hok)
      simp [Instr.indexAt, asIntOf, run_underlying ht, hb.1, hb.2, sizeOf, typeInfo, hi]
    · cases ho
  · cases ho
/-- The address of an array's element. -/
def sIdxArr (len sz : Nat) (x i : Value) : Option Value :=
  match x, i with
  | .pointer (some a), .int _ n => if 0 ≤ n ∧ n < len then some (.pointer (some (a.add (n.toNat * sz)))) else none
  | _, _ => none
theorem stp_idxArr {P : Program} {H : Heap} {ρ : Nat → Nat × Nat} {w : World} (hR : Rep H ρ w) {t e : TypeId} {len : Nat} {i : TypeInfo} (ht : P.underlying t = some (.array len e)) (hi : P.info? e = some i)
    {x x' n n' v : Value} (hx : r3 (H.cx ρ) x x') (hn : r3 (H.cx ρ) n n') (ho : sIdxArr len i.size x n = some v) : Stp P H ρ w (Instr.indexAt t x' n') v H := by
  unfold sIdxArr at ho
  split at ho
  · rename_i a k q
    split at ho
    · rename_i hb
      cases ho
      have hn' := r3_int hn
      subst hn'
      obtain ⟨ha, rfl⟩ := r3_ptr hx
      refine Stp.same hR ?_ (r3_ptr_add (q.toNat * i.size) ha)
      simp [Instr.indexAt, asIntOf, run_underlying ht, hb.1, hb.2, sizeOf, typeInfo, hi, Instr.sureAddr]
    · cases ho
  · cases ho
end Go.Ot
