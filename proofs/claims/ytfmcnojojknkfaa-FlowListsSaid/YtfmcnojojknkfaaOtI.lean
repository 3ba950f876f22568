/-
  Part I: cuts of arrays and texts, parts of values, the least and the greatest.
-/
import Derived.Test.YtfmcnojojknkfaaOtH
set_option linter.unusedVariables false
set_option linter.unusedSimpArgs false
namespace Go.Ot
open Go.RowKit

def sSliceArr (n sz : Nat) (x : Value) (lo hi mx : Option Value) : Option Value :=
  match x with
  | .pointer (some a) =>
    (bnd 0 lo).bind fun l => (bnd n hi).bind fun h => (bnd n mx).bind fun m =>
      if l ≤ h ∧ h ≤ m ∧ m ≤ n ∧ (mx.isSome = true → hi.isSome = true) then some (.slice (some (a.add (l * sz))) (h - l) (if m = h then 1 else 2)) else none
  | _ => none
theorem stp_sliceArr {P : Program} {H : Heap} {ρ : Nat → Nat × Nat} {w : World} (hR : Rep H ρ w) {t e : TypeId} {n : Nat} {ie : TypeInfo} (ht : P.underlying t = some (.array n e)) (hie : P.info? e = some ie)
    {x x' v : Value} {lo lo' hi hi' mx mx' : Option Value} (hx : r3 (H.cx ρ) x x') (hlo : relO (H.cx ρ) lo lo') (hhi : relO (H.cx ρ) hi hi') (hmx : relO (H.cx ρ) mx mx')
    (hs : sSliceArr n ie.size x lo hi mx = some v) : Stp P H ρ w (Instr.sliceAt t x' lo' hi' mx') v H := by
  unfold sSliceArr at hs
  split at hs
  · rename_i a
    obtain ⟨hok, rfl⟩ := r3_ptr hx
    cases el : bnd 0 lo with
    | none => simp [el] at hs
    | some l =>
      cases eh : bnd n hi with
      | none => simp [el, eh] at hs
      | some h =>
        cases em : bnd n mx with
        | none => simp [el, eh, em] at hs
        | some m =>
          simp only [el, eh, em, Option.bind_some] at hs
          split at hs
          · rename_i hc
            obtain ⟨h1, h2, h3, hm⟩ := hc
            cases hs
            have hb := run_bounds (P := P) (w := w) hlo hhi hmx false el eh em h1 h2 h3 hm
            obtain ⟨hok2, hadd⟩ := Cx.addr_add (l * ie.size) hok
            refine Stp.same (v' := .slice (some (if m = l then (H.cx ρ).addr a else ((H.cx ρ).addr a).add (l * ie.size))) (h - l) (m - l)) hR ?_ ⟨hok2, _, _, rfl, by omega, ?_, ?_, ?_⟩
            · simp only [Instr.sliceAt, Sem.run_bind, run_underlying ht, Result.andThen_ok, Instr.sureAddr, Sem.run_pure, hb, run_sizeOf hie]
            · intro hpos
              rw [if_neg (by omega)]
              exact hadd
            · intro hcode; split at hcode <;> cases hcode
            · intro hcode
              split at hcode
              · rename_i he; omega
              · cases hcode
          · cases hs
  · cases hs
def sSliceStr (x : Value) (lo hi : Option Value) : Option Value :=
  match x with
  | .string s => (bnd 0 lo).bind fun l => (bnd s.size hi).bind fun h => if l ≤ h ∧ h ≤ s.size then some (.string (s.extract l h)) else none
  | _ => none
theorem stp_sliceStr {P : Program} {H : Heap} {ρ : Nat → Nat × Nat} {w : World} (hR : Rep H ρ w) {t : TypeId} (ht : P.underlying t = some .string)
    {x x' v : Value} {lo lo' hi hi' : Option Value} (hx : r3 (H.cx ρ) x x') (hlo : relO (H.cx ρ) lo lo') (hhi : relO (H.cx ρ) hi hi')
    (hs : sSliceStr x lo hi = some v) : Stp P H ρ w (Instr.sliceAt t x' lo' hi' none) v H := by
  unfold sSliceStr at hs
  split at hs
  · rename_i s
    have hx' : x' = .string s := hx
    subst hx'
    cases el : bnd 0 lo with
    | none => simp [el] at hs
    | some l =>
      cases eh : bnd s.size hi with
      | none => simp [el, eh] at hs
      | some h =>
        simp only [el, eh, Option.bind_some] at hs
        split at hs
        · rename_i hc
          cases hs
          have hb := run_bounds (P := P) (w := w) (c := H.cx ρ) hlo hhi (mx := none) (mx' := none) trivial false el eh (cap := s.size) rfl hc.1 hc.2 (Nat.le_refl _) (by simp)
          refine Stp.same (v' := .string (s.extract l h)) hR ?_ rfl
          simp [Instr.sliceAt, Instr.slice, run_underlying ht, hb]
        · cases hs
  · cases hs
/-- A slice as the address of an array. -/
def sArr (n : Nat) (x : Value) : Option Value :=
  match x with
  | .slice (some a) len _ => if n ≤ len ∧ 0 < n then some (.pointer (some a)) else none
  | _ => none
theorem stp_arr {P : Program} {H : Heap} {ρ : Nat → Nat × Nat} {w : World} (hR : Rep H ρ w) {t e : TypeId} {n : Nat} (ht : P.underlying t = some (.array n e))
    {x x' v : Value} (hx : r3 (H.cx ρ) x x') (hs : sArr n x = some v) : Stp P H ρ w (Instr.arrayAt t x') v H := by
  unfold sArr at hs
  split at hs
  · rename_i a len code
    split at hs
    · rename_i hc
      cases hs
      simp only [r3, r2, r1, r0] at hx
      obtain ⟨hok, a', cap', rfl, hle, hoff, _, _⟩ := hx
      rw [hoff (by omega)]
      refine Stp.same (v' := .pointer (some ((H.cx ρ).addr a))) hR ?_ ⟨hok, rfl⟩
      have : ¬ len < n := by omega
      simp [Instr.arrayAt, run_underlying ht, this]
    · cases hs
  · cases hs

/-! ### a literal's bytes are marked -/
def sMark (H : Heap) (x : Value) : Option Value :=
  match x with
  | .slice (some a) n code => if ¬ a.block < H.B ∧ ((H.blk a.block).any fun k => decide (0 < k.sz)) = true ∧ (code = 0 ∨ 0 < n) then some x else none
  | _ => none
theorem stp_mark {P : Program} {H : Heap} {ρ : Nat → Nat × Nat} {w : World} (hR : Rep H ρ w) {t e : TypeId} (ht : P.underlying t = some (.slice e)) (he : P.underlying e = some (.int .u8))
    {x x' v : Value} (hx : r3 (H.cx ρ) x x') (hs : sMark H x = some v) : Stp P H ρ w (convert t t x') v H := by
  unfold sMark at hs
  split at hs
  · rename_i a n code
    split at hs
    · rename_i hc
      obtain ⟨hB, hk, hcode⟩ := hc
      cases hs
      have hx0 := hx
      simp only [r3, r2, r1, r0] at hx
      obtain ⟨hok, a', cap', rfl, hle, hoff, h6, _⟩ := hx
      have haddr : a' = (H.cx ρ).addr a := by
        rcases hcode with h0 | h0
        · exact (h6 h0).2.2.1
        · exact hoff h0
      have hablk : a'.block = (ρ a.block).1 := by rw [haddr]; simp [Cx.addr, Heap.cx, hB]
      cases hkk : H.blk a.block with
      | none => simp [hkk] at hk
      | some k =>
        have hk0 : 0 < k.sz := by simpa [hkk] using hk
        obtain ⟨q1, q2, q3, cur, fz, q4, q5, q6, q7⟩ := hR.row _ _ hkk hk0
        obtain ⟨lo, hi⟩ := fz
        have hsh : w.shape? a'.block = some (k.ty, cur.size) := by simp only [World.shape?, hablk, q4]
        have hrun : (convert t t (.slice (some a') n cap')).run P w = .ok (.slice (some a') n cap') (w.freeze ⟨a'.block, cur.size, none⟩ 1) := by
          simp only [convert, Sem.run_bind, run_underlying ht, Result.andThen_ok, run_underlying he, beq_self_eq_true]
          simp only [markStringish, Sem.run_bind, run_shape, hsh, Result.andThen_ok, run_freeze, Sem.run_pure]
        have hother : ∀ g, g ≠ a'.block → (w.freeze ⟨a'.block, cur.size, none⟩ 1).heap[g]? = w.heap[g]? := by
          intro g hg
          simp only [World.freeze, Nat.one_ne_zero, if_false]
          rw [Array.getElem?_modify, if_neg (by omega)]
        have hself : (w.freeze ⟨a'.block, cur.size, none⟩ 1).heap[(ρ a.block).1]? = some (.cells cur k.ty (if lo == hi then (cur.size, cur.size + 1) else (min lo cur.size, max hi (cur.size + 1)))) := by
          simp only [World.freeze, Nat.one_ne_zero, if_false]
          rw [Array.getElem?_modify, if_pos hablk, q4]
          rfl
        have hfree : Free cur.size (if lo == hi then (cur.size, cur.size + 1) else (min lo cur.size, max hi (cur.size + 1))) := by
          rcases q5 with h0 | h0
          · cases h0; exact .inr (Nat.le_refl _)
          · split
            · exact .inr (Nat.le_refl _)
            · exact .inr (by simp only; have : cur.size ≤ lo := h0; omega)
        have hB2 : H.N ≤ a'.block := by rw [hablk]; exact q1
        refine ⟨ρ, _, _, hrun, hx0, ⟨?_, hR.lim, hR.next, hR.live, ?_, ?_, hR.inj⟩, Cx.le.refl _⟩
        · refine hR.below.trans ⟨by simp [World.freeze], by simp [World.freeze], by simp [World.freeze], by simp [World.freeze], fun g hg => hother g (by omega)⟩
        · intro b kb hb h0
          by_cases hg : (ρ b).1 = (ρ a.block).1
          · have := hR.inj _ _ _ _ hb hkk hg
            subst this
            rw [hkk] at hb; cases hb
            exact ⟨q1, q2, q3, cur, _, hself, hfree, q6, q7⟩
          · exact (hR.row _ _ hb h0).same (hother _ (by rw [hablk]; exact hg))
        · intro b kb hb h0
          by_cases hg : (ρ b).1 = (ρ a.block).1
          · have := hR.inj _ _ _ _ hb hkk hg
            subst this
            rw [hkk] at hb; cases hb
            omega
          · exact (hR.oth _ _ hb h0).same (hother _ (by rw [hablk]; exact hg))
    · cases hs
  · cases hs

/-! ### parts of values -/
def sPart (agg : Bool) (off n : Nat) (cs : List Value) : Option Value :=
  if agg then (if off + n ≤ cs.length then some (.agg ((cs.drop off).take n).toArray) else none) else cs[off]?
theorem stp_part {P : Program} {H : Heap} {ρ : Nat → Nat × Nat} {w : World} (hR : Rep H ρ w) {t : TypeId} {d : TypeDesc} {i : TypeInfo} (hd : P.underlying t = some d) (hi : P.info? t = some i)
    {cs : List Value} {cs' : Array Value} {off : Nat} {v : Value} (hcs : All2 (r1 (H.cx ρ)) cs cs'.toList) (hs : sPart (aggOf d) off i.size cs = some v) : Stp P H ρ w (part t cs' off) v H := by
  unfold sPart at hs
  split at hs
  · rename_i hagg
    split at hs
    · rename_i hle
      cases hs
      refine Stp.same (v' := .agg (cs'.extract off (off + i.size))) hR ?_ ⟨_, rfl, ?_⟩
      · unfold part
        rw [Sem.run_bind, run_isAgg hd, Result.andThen_ok, if_pos hagg, Sem.run_bind, run_sizeOf hi, Result.andThen_ok, Sem.run_pure]
      · have := (hcs.drop off).take i.size
        simpa [Array.toList_extract, List.extract_eq_take_drop] using this
    · cases hs
  · rename_i hagg
    obtain ⟨v', hv', hr⟩ := hcs.get hs
    refine Stp.same (v' := v') hR ?_ (r3_of_r1 hr)
    unfold part
    rw [Sem.run_bind, run_isAgg hd, Result.andThen_ok, if_neg hagg]
    have : cs'[off]? = some v' := by simpa using hv'
    simp [this]
def sFld (agg : Bool) (off n : Nat) (x : Value) : Option Value :=
  match x with
  | .agg cs => sPart agg off n cs.toList
  | _ => none
theorem stp_fld {P : Program} {H : Heap} {ρ : Nat → Nat × Nat} {w : World} (hR : Rep H ρ w) {xT : TypeId} {fs : Array Field} {f : Nat} {fd : Field} {d : TypeDesc} {i : TypeInfo} (hx : P.underlying xT = some (.struct fs)) (hf : fs[f]? = some fd) (hd : P.underlying fd.type = some d) (hi : P.info? fd.type = some i)
    {x x' v : Value} (hr : r3 (H.cx ρ) x x') (hs : sFld (aggOf d) fd.offset i.size x = some v) : Stp P H ρ w (Instr.field xT x' f) v H := by
  unfold sFld at hs
  split at hs
  · rename_i cs
    obtain ⟨cs', rfl, hcs⟩ := hr
    obtain ⟨ρ', v', w', hrun, h⟩ := stp_part (P := P) hR hd hi hcs hs
    refine ⟨ρ', v', w', ?_, h⟩
    simp only [Instr.field, Sem.run_bind, run_underlying hx, Result.andThen_ok, hf, asAgg, Sem.run_pure]
    exact hrun
  · cases hs
def sIdxAgg (agg : Bool) (len n : Nat) (x i : Value) : Option Value :=
  match x, i with
  | .agg cs, .int _ k => if 0 ≤ k ∧ k < len then sPart agg (k.toNat * n) n cs.toList else none
  | _, _ => none
theorem stp_idxAgg {P : Program} {H : Heap} {ρ : Nat → Nat × Nat} {w : World} (hR : Rep H ρ w) {xT e : TypeId} {len : Nat} {d : TypeDesc} {i : TypeInfo} (hx : P.underlying xT = some (.array len e)) (hd : P.underlying e = some d) (hi : P.info? e = some i)
    {x x' k k' v : Value} (hr : r3 (H.cx ρ) x x') (hk : r3 (H.cx ρ) k k') (hs : sIdxAgg (aggOf d) len i.size x k = some v) : Stp P H ρ w (Instr.index xT x' k') v H := by
  unfold sIdxAgg at hs
  split at hs
  · rename_i cs kk q
    split at hs
    · rename_i hb
      obtain ⟨cs', rfl, hcs⟩ := hr
      have e := r3_int hk
      subst e
      obtain ⟨ρ', v', w', hrun, h⟩ := stp_part (P := P) hR hd hi hcs hs
      refine ⟨ρ', v', w', ?_, h⟩
      simp only [Instr.index, asIntOf, Sem.run_bind, Sem.run_pure, run_underlying hx, Result.andThen_ok]
      rw [if_pos hb, Sem.run_bind, run_sizeOf hi, Result.andThen_ok]
      exact hrun
    · cases hs
  · cases hs
def sIdxStr (x i : Value) : Option Value :=
  match x, i with
  | .string s, .int _ k => if h : 0 ≤ k ∧ k.toNat < s.size then some (.int .u8 (s[k.toNat]'h.2).toNat) else none
  | _, _ => none
theorem stp_idxStr {P : Program} {H : Heap} {ρ : Nat → Nat × Nat} {w : World} (hR : Rep H ρ w) {xT : TypeId} (hx : P.underlying xT = some .string)
    {x x' k k' v : Value} (hr : r3 (H.cx ρ) x x') (hk : r3 (H.cx ρ) k k') (hs : sIdxStr x k = some v) : Stp P H ρ w (Instr.index xT x' k') v H := by
  unfold sIdxStr at hs
  split at hs
  · rename_i s kk q
    split at hs
    · rename_i hb
      cases hs
      have e1 : x' = .string s := hr
      have e2 := r3_int hk
      subst e1; subst e2
      refine Stp.same (v' := .int .u8 (s[q.toNat]'hb.2).toNat) hR ?_ rfl
      have hg : s[q.toNat]? = some (s[q.toNat]'hb.2) := by simp [hb.2]
      simp [Instr.index, asIntOf, run_underlying hx, hb.1, hg]
    · cases hs
  · cases hs
def sExtract (x : Value) (i : Nat) : Option Value :=
  match x with
  | .tuple vs => vs[i]?
  | _ => none
theorem stp_extract {P : Program} {H : Heap} {ρ : Nat → Nat × Nat} {w : World} (hR : Rep H ρ w) {x x' v : Value} {i : Nat} (hr : r3 (H.cx ρ) x x') (hs : sExtract x i = some v) : Stp P H ρ w (Instr.extract x' i) v H := by
  unfold sExtract at hs
  split at hs
  · rename_i vs
    obtain ⟨vs', rfl, hvs⟩ := hr
    obtain ⟨v', hv', hr'⟩ := hvs.get (i := i) (a := v) (by simpa using hs)
    refine Stp.same (v' := v') hR ?_ (r3_of_r2 hr')
    have : vs'[i]? = some v' := by simpa using hv'
    simp [Instr.extract, this]
  · cases hs

/-! ### the least, the greatest -/
def sMinMax (mx : Bool) : Value → List Value → Option Value
  | x, [] => some x
  | .int k x, .int _ y :: rest => sMinMax mx (.int k (if mx then (if y > x then y else x) else (if y < x then y else x))) rest
  | _, _ => none
theorem sMinMax_plain {mx : Bool} : ∀ {rest : List Value} {x v : Value}, sMinMax mx x rest = some v → plain0 x = true → plain0 v = true ∧ ∀ y ∈ rest, plain0 y = true
  | [], x, v, h, hp => by simp [sMinMax] at h; subst h; exact ⟨hp, by simp⟩
  | y :: rest, x, v, h, hp => by
    unfold sMinMax at h
    split at h
    · rename_i e; cases e
    · rename_i e; cases e
      obtain ⟨h1, h2⟩ := sMinMax_plain h rfl
      refine ⟨h1, fun y hy => ?_⟩
      rcases List.mem_cons.1 hy with rfl | hy
      · rfl
      · exact h2 y hy
    · cases h
theorem run_minmax {P : Program} {w : World} {mx : Bool} : ∀ {rest : List Value} {x v : Value}, sMinMax mx x rest = some v →
    (rest.foldlM (if mx then Builtin.max2 else Builtin.min2) x : Sem Value).run P w = .ok v w
  | [], x, v, h => by simp [sMinMax] at h; subst h; rfl
  | y :: rest, x, v, h => by
    unfold sMinMax at h
    split at h
    · rename_i e; cases e
    · rename_i e; cases e
      have ih := run_minmax (P := P) (w := w) h
      rw [List.foldlM_cons, Sem.run_bind]
      cases mx <;> simpa [Builtin.max2, Builtin.min2] using ih
    · cases h
end Go.Ot
