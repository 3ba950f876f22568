/-
  Part E: structs and slices that are made, cut, appended to, copied.
-/
import Derived.Test.YtfmcnojojknkfaaOtD
set_option linter.unusedVariables false
set_option linter.unusedSimpArgs false
namespace Go.Ot
open Go.RowKit

/-! ### parts laid into cells -/
def fillA (cells : List Value) : List (Nat × Nat × Value) → Option (List Value)
  | [] => some cells
  | (off, size, v) :: rest =>
    if notTup v = true ∧ v.cells.size = size ∧ off + size ≤ cells.length then fillA (cells.take off ++ v.cells.toList ++ cells.drop (off + size)) rest else none
theorem zip_fold (off : Nat) : ∀ (l : List Value) (k : Nat) (cells : Array Value), off + k + l.length ≤ cells.size →
    ((l.zipIdx k).foldl (fun (cs : Array Value) (p : Value × Nat) => cs.setIfInBounds (off + p.2) p.1) cells).toList = cells.toList.take (off + k) ++ l ++ cells.toList.drop (off + k + l.length)
  | [], k, cells, h => by simp
  | v :: l, k, cells, h => by
    simp only [List.length_cons] at h
    rw [List.zipIdx_cons, List.foldl_cons, zip_fold off l (k + 1) _ (by simp; omega)]
    have e := list_seg_step cells.toList (off + k) v l (by simp; omega)
    simpa [Array.toList_setIfInBounds, Nat.add_assoc] using e
theorem fill_sim {c : Cx} {place : Nat → Option (Nat × Nat)} : ∀ {parts : List (Nat × Nat × Value)} {parts' : List (Nat × Value)} {cells out : List Value} {cells' : Array Value},
    All2 (r1 c) cells cells'.toList → All2 (fun (p : Nat × Nat × Value) (q : Nat × Value) => place q.1 = some (p.1, p.2.1) ∧ r3 c p.2.2 q.2) parts parts' → fillA cells parts = some out →
    ∃ out', Instr.fill place cells' parts' = some out' ∧ All2 (r1 c) out out'.toList
  | [], _, cells, out, cells', hc, hp, hf => by
    cases hp; simp [fillA] at hf; subst hf; exact ⟨cells', rfl, hc⟩
  | (off, size, v) :: rest, _, cells, out, cells', hc, hp, hf => by
    cases hp with
    | cons hq hrest =>
      rename_i q parts'
      obtain ⟨i, v'⟩ := q
      obtain ⟨hpl, hv⟩ := hq
      simp only [fillA] at hf
      split at hf
      · rename_i hcond
        have hcells := r2_cells (r2_of_r3 (notTup_ne hcond.1) hv)
        have hl1 := hcells.length
        have hl2 := hc.length
        simp at hl1 hl2
        have hz := zip_fold off v'.cells.toList 0 cells' (by simp; omega)
        have hrel : All2 (r1 c) (cells.take off ++ v.cells.toList ++ cells.drop (off + size)) ((v'.cells.zipIdx.foldl (fun cs (p : Value × Nat) => cs.setIfInBounds (off + p.2) p.1) cells').toList) := by
          have e : v'.cells.zipIdx.foldl (fun cs (p : Value × Nat) => cs.setIfInBounds (off + p.2) p.1) cells' = (v'.cells.toList.zipIdx 0).foldl (fun (cs : Array Value) (p : Value × Nat) => cs.setIfInBounds (off + p.2) p.1) cells' := by
            rw [← Array.foldl_toList, Array.toList_zipIdx]
          rw [e, hz]
          have h1 : v'.cells.toList.length = size := by simp; omega
          rw [h1]
          simp only [Nat.add_zero]
          exact ((hc.take off).append hcells).append (hc.drop (off + size))
        obtain ⟨out', h1, h2⟩ := fill_sim hrel hrest hf
        refine ⟨out', ?_, h2⟩
        simp only [Instr.fill, hpl]
        have hn : ¬ (v'.cells.size ≠ size) := by simp; omega
        have hb : (v'.cells.size != size || decide (off + v'.cells.size > cells'.size)) = false := by
          simp only [bne_iff_ne, ne_eq, Bool.or_eq_false_iff, decide_eq_false_iff_not]
          refine ⟨by simp; omega, by omega⟩
        have hb2 : ¬ ((decide (v'.cells.size ≠ size) || decide (off + v'.cells.size > cells'.size)) = true) := by
          simp only [Bool.or_eq_true, decide_eq_true_eq]; omega
        rw [if_neg hb2]
        exact h1
      · cases hf

/-- The places of a struct's fields, of an array's elements. -/
def fieldPlaces (P : Program) (fs : List Field) : Option (List (Nat × Nat)) :=
  match fs with
  | [] => some []
  | f :: rest => (P.info? f.type).bind fun i => (fieldPlaces P rest).map ((f.offset, i.size) :: ·)
theorem run_fieldPlaces {P : Program} {w : World} : ∀ {fs : List Field} {pl : List (Nat × Nat)}, fieldPlaces P fs = some pl →
    (fs.mapM fun f => (do pure (f.offset, ← sizeOf f.type) : Sem (Nat × Nat))).run P w = .ok pl w
  | [], pl, h => by simp [fieldPlaces] at h; subst h; simp
  | f :: rest, pl, h => by
    simp only [fieldPlaces] at h
    cases hi : P.info? f.type with
    | none => simp [hi] at h
    | some i =>
      cases hr : fieldPlaces P rest with
      | none => simp [hi, hr] at h
      | some pl' =>
        simp [hi, hr] at h; subst h
        have ih := run_fieldPlaces (P := P) (w := w) hr
        simp only [List.mapM_cons, Sem.run_bind, run_sizeOf hi, Result.andThen_ok, Sem.run_pure, ih]
theorem stp_build_struct {P : Program} {H : Heap} {ρ : Nat → Nat × Nat} {w : World} (hR : Rep H ρ w) {t : TypeId} {fs : Array Field} {i : TypeInfo} {z : Value} {pl : List (Nat × Nat)} (ht : P.underlying t = some (.struct fs)) (hi : P.info? t = some i) (hz : i.zero = some z)
    (hp : ∀ v ∈ z.cells.toList, plain1 v = true) (hpl : fieldPlaces P fs.toList = some pl) {parts : List (Nat × Nat × Value)} {parts' : Array (Nat × Value)} {out : List Value}
    (hrel : All2 (fun (p : Nat × Nat × Value) (q : Nat × Value) => pl[q.1]? = some (p.1, p.2.1) ∧ r3 (H.cx ρ) p.2.2 q.2) parts parts'.toList) (hf : fillA z.cells.toList parts = some out) :
    Stp P H ρ w (Instr.build t parts') (.agg out.toArray) H := by
  have hcells : All2 (r1 (H.cx ρ)) z.cells.toList z.cells.toList := All2.of_same fun v hv => plain1_self (hp v hv)
  obtain ⟨out', h1, h2⟩ := fill_sim (place := (pl.toArray[·]?)) hcells (hrel.imp (fun a b h => ⟨by simpa using h.1, h.2⟩)) hf
  refine Stp.same (v' := .agg out') hR ?_ ⟨out', rfl, by simpa using h2⟩
  have hm := run_fieldPlaces (P := P) (w := w) hpl
  have hm' : (fs.mapM fun f => (do pure (f.offset, ← sizeOf f.type) : Sem (Nat × Nat))).run P w = .ok pl.toArray w := by
    rw [Array.mapM_eq_mapM_toList, Sem.run_map, hm]
    rfl
  simp only [Instr.build, zeroValue, typeInfo, Sem.run_bind, run_program, Result.andThen_ok, hi, Sem.run_pure, hz, run_underlying ht, hm', h1]
theorem stp_build_array {P : Program} {H : Heap} {ρ : Nat → Nat × Nat} {w : World} (hR : Rep H ρ w) {t e : TypeId} {n : Nat} {i ie : TypeInfo} {z : Value} (ht : P.underlying t = some (.array n e)) (hi : P.info? t = some i) (hie : P.info? e = some ie) (hz : i.zero = some z)
    (hp : ∀ v ∈ z.cells.toList, plain1 v = true) {parts : List (Nat × Nat × Value)} {parts' : Array (Nat × Value)} {out : List Value}
    (hrel : All2 (fun (p : Nat × Nat × Value) (q : Nat × Value) => (q.1 * ie.size, ie.size) = (p.1, p.2.1) ∧ r3 (H.cx ρ) p.2.2 q.2) parts parts'.toList) (hf : fillA z.cells.toList parts = some out) :
    Stp P H ρ w (Instr.build t parts') (.agg out.toArray) H := by
  have hcells : All2 (r1 (H.cx ρ)) z.cells.toList z.cells.toList := All2.of_same fun v hv => plain1_self (hp v hv)
  obtain ⟨out', h1, h2⟩ := fill_sim (place := fun i => some (i * ie.size, ie.size)) hcells (hrel.imp (fun a b h => ⟨by rw [h.1], h.2⟩)) hf
  refine Stp.same (v' := .agg out') hR ?_ ⟨out', rfl, by simpa using h2⟩
  simp only [Instr.build, zeroValue, typeInfo, Sem.run_bind, run_program, Result.andThen_ok, hi, Sem.run_pure, hz, run_underlying ht, run_sizeOf hie, h1]

/-! ### new rows -/
theorem r3_newRow {H : Heap} (ρ : Nat → Nat × Nat) (ty : TypeId) (sz : Nat) (cells : List Value) (g lim n : Nat) (hn : n ≤ lim) (hB : H.B ≤ H.next) :
    r3 ((H.new ty sz cells).cx (up ρ H.next (g, lim))) (.slice (some ⟨H.next, 0, none⟩) n 0) (.slice (some ⟨g, 0, none⟩) n lim) := by
  have hnb : ¬ H.next < H.base.lim := by have : H.B = H.base.lim := rfl; omega
  refine ⟨.inr ⟨Nat.lt_succ_self _, rfl⟩, ⟨g, 0, none⟩, lim, rfl, hn, fun _ => ?_, fun _ => ⟨hnb, rfl, ?_, ?_⟩, fun h => absurd h (by decide)⟩
  · simp [Cx.addr, Heap.cx, Heap.new, Heap.B, hnb, up_self]
  · simp [Cx.addr, Heap.cx, Heap.new, Heap.B, hnb, up_self]
  · simp [Heap.cx, Heap.new, up_self]
theorem stp_newRow {P : Program} {H : Heap} {ρ : Nat → Nat × Nat} {w : World} (hR : Rep H ρ w) (ty : TypeId) (sz : Nat) (hsz : 0 < sz) (cells : List Value) (cur : Array Value) (n lim : Nat) (hlim : lim ≤ maxLen) (hn : n ≤ lim)
    (hcur : cur.size = lim * sz) (hr : All2 (r1 (H.cx ρ)) cells (cur.toList.take cells.length)) :
    Stp P H ρ w (do pure (.slice (some (← newRow ty cur)) n lim)) (.slice (some ⟨H.next, 0, none⟩) n 0) (H.new ty sz cells) := by
  have hR' := hR.alloc ty sz hsz cells cur (0, 0) lim hlim (free00 _) hcur hr
  exact ⟨_, .slice (some ⟨w.heap.size, 0, none⟩) n lim, _, by simp [newRow], r3_newRow ρ ty sz cells _ lim n hn hR.next, hR', le_new H ρ _ _ _ _⟩
/-- Zero cells, written out. -/
def zerosA (z : List Value) (n : Nat) : List Value := (List.range n).map fun i => z.getD (i % z.length) undef
theorem zeros_eq {z : Value} {n : Nat} (h : 0 < z.cells.size) : ((Array.range n).map (z.cells[· % z.cells.size]!)).toList = zerosA z.cells.toList n := by
  unfold zerosA
  rw [Array.toList_map, Array.toList_range]
  apply List.map_congr_left
  intro i hi
  have hlt : i % z.cells.size < z.cells.size := Nat.mod_lt _ h
  simp [hlt]
theorem stp_buildSlice {P : Program} {H : Heap} {ρ : Nat → Nat × Nat} {w : World} (hR : Rep H ρ w) {t e : TypeId} {len : Nat} {ie : TypeInfo} {z : Value} (ht : P.underlying t = some (.slice e)) (hie : P.info? e = some ie) (hz : ie.zero = some z)
    (hzs : z.cells.size = ie.size) (hpos : 0 < ie.size) (hlen : len * ie.size ≤ 2 ^ 24) (hp : ∀ v ∈ z.cells.toList, plain1 v = true) {parts : List (Nat × Nat × Value)} {parts' : Array (Nat × Value)} {out : List Value}
    (hrel : All2 (fun (p : Nat × Nat × Value) (q : Nat × Value) => (q.1 * ie.size, ie.size) = (p.1, p.2.1) ∧ r3 (H.cx ρ) p.2.2 q.2) parts parts'.toList)
    (hf : fillA (zerosA z.cells.toList (len * ie.size)) parts = some out) (hout : out.length = len * ie.size) :
    Stp P H ρ w (Instr.buildSlice t len parts') (.slice (some ⟨H.next, 0, none⟩) len 0) (H.new e ie.size out) := by
  let zc : Array Value := if len * ie.size = 0 then #[] else z.cells
  have hzc : (((Array.range (len * ie.size)).map (zc[· % zc.size]!)).toList) = zerosA z.cells.toList (len * ie.size) := by
    by_cases h0 : len * ie.size = 0
    · simp [h0, zerosA]
    · simp only [zc, h0, if_false]; exact zeros_eq (by omega)
  have hcells : All2 (r1 (H.cx ρ)) (zerosA z.cells.toList (len * ie.size)) ((Array.range (len * ie.size)).map (zc[· % zc.size]!)).toList := by
    rw [hzc]
    refine All2.of_same fun v hv => plain1_self ?_
    simp only [zerosA, List.mem_map, List.mem_range] at hv
    obtain ⟨k, _, rfl⟩ := hv
    have hlt : k % z.cells.toList.length < z.cells.toList.length := Nat.mod_lt _ (by simp; omega)
    rw [List.getD_eq_getElem?_getD, List.getElem?_eq_getElem hlt]
    exact hp _ (List.getElem_mem hlt)
  obtain ⟨out', h1, h2⟩ := fill_sim (place := fun i => some (i * ie.size, ie.size)) hcells (hrel.imp (fun a b h => ⟨by rw [h.1], h.2⟩)) hf
  have hsz' : out'.size = len * ie.size := by have := h2.length; simp at this; omega
  have hml : len ≤ maxLen := by
    have : len ≤ len * ie.size := Nat.le_mul_of_pos_right _ hpos
    simp only [maxLen]; omega
  obtain ⟨ρ', v', w', hrun, h3, h4, h5⟩ := stp_newRow (P := P) hR e ie.size hpos out out' len len hml (Nat.le_refl _) hsz' (by
    have : out.length = out'.toList.length := h2.length
    rw [this, List.take_length]; exact h2)
  refine ⟨ρ', v', w', ?_, h3, h4, h5⟩
  rw [← hrun]
  have hle : ¬ (len * ie.size > 2 ^ 24) := by omega
  have hzv : (zeroValue e).run P w = .ok z w := by simp [zeroValue, typeInfo, hie, hz]
  simp only [Instr.buildSlice, Sem.run_bind, run_underlying ht, Result.andThen_ok, run_sizeOf hie, Sem.run_ite, hle, if_false, Sem.run_pure]
  by_cases h0 : len * ie.size = 0
  · have hz0 : zc = #[] := by simp only [zc, h0, if_true]
    rw [hz0] at h1
    rw [if_pos h0, h1]
    rfl
  · have hz0 : zc = z.cells := by simp only [zc, h0, if_false]
    rw [hz0] at h1
    rw [if_neg h0, hzv, Result.andThen_ok, h1]
    rfl
end Go.Ot
