/-
  Part F: make, cuts, append, copy, len, texts and bytes.
-/
import Derived.Test.YtfmcnojojknkfaaOtE
set_option linter.unusedVariables false
set_option linter.unusedSimpArgs false
namespace Go.Ot
open Go.RowKit

theorem maxLen_val : maxLen = 9223372036854775807 := by simp [maxLen]
/-! ### make -/
def sMake (H : Heap) (ety : TypeId) (sz bytes : Nat) (z : List Value) (l c : Value) : Option (Value × Heap) :=
  match l, c with
  | .int _ l, .int _ c => if 0 ≤ l ∧ l ≤ c ∧ (bytes : Int) * c ≤ 140737488355328 ∧ c ≤ 9223372036854775807 then some (.slice (some ⟨H.next, 0, none⟩) l.toNat 0, H.new ety sz (zerosA z (l.toNat * sz))) else none
  | _, _ => none
theorem zerosA_take (z : List Value) {m n : Nat} (h : m ≤ n) : (zerosA z n).take m = zerosA z m := by
  unfold zerosA
  rw [← List.map_take, List.take_range]
  congr 2
  omega
theorem zerosA_length (z : List Value) (n : Nat) : (zerosA z n).length = n := by simp [zerosA]
theorem zerosA_plain {z : List Value} (hz : 0 < z.length) (h : ∀ v ∈ z, plain1 v = true) (n : Nat) : ∀ v ∈ zerosA z n, plain1 v = true := by
  intro v hv
  simp only [zerosA, List.mem_map, List.mem_range] at hv
  obtain ⟨k, _, rfl⟩ := hv
  have hlt : k % z.length < z.length := Nat.mod_lt _ hz
  rw [List.getD_eq_getElem?_getD, List.getElem?_eq_getElem hlt]
  exact h _ (List.getElem_mem hlt)
theorem stp_make {P : Program} {H H' : Heap} {ρ : Nat → Nat × Nat} {w : World} (hR : Rep H ρ w) {t e : TypeId} {ie : TypeInfo} {z : Value} (ht : P.underlying t = some (.slice e)) (hie : P.info? e = some ie) (hz : ie.zero = some z)
    (hzs : z.cells.size = ie.size) (hpos : 0 < ie.size) (hp : ∀ v ∈ z.cells.toList, plain1 v = true) {l l' c c' v : Value} (hl : r3 (H.cx ρ) l l') (hc : r3 (H.cx ρ) c c')
    (hs : sMake H e ie.size ie.bytes z.cells.toList l c = some (v, H')) : Stp P H ρ w (Instr.makeSlice t l' c') v H' := by
  unfold sMake at hs
  split at hs
  · rename_i kl l kc c
    split at hs
    · rename_i h
      obtain ⟨h1, h2, h3, h4⟩ := h
      cases hs
      have e1 := r3_int hl; have e2 := r3_int hc
      subst e1; subst e2
      have hr := run_make (P := P) w t e ie z ht hie hz kl kc l c h1 h2 (by omega) h4
      have hcm : c.toNat ≤ maxLen := by rw [maxLen_val]; omega
      have hll : (zerosA z.cells.toList (l.toNat * ie.size)).length = l.toNat * ie.size := zerosA_length _ _
      have hmc : (madeCells z.cells (c.toNat * ie.size)).toList = zerosA z.cells.toList (c.toNat * ie.size) := zeros_eq (by omega)
      obtain ⟨ρ', v', w', hrun, h5, h6, h7⟩ := stp_newRow (P := P) hR e ie.size hpos (zerosA z.cells.toList (l.toNat * ie.size)) (madeCells z.cells (c.toNat * ie.size)) l.toNat c.toNat hcm (by omega) (size_madeCells _ _) (by
        rw [hmc, hll, zerosA_take _ (Nat.mul_le_mul_right _ (by omega))]
        exact All2.of_same fun v hv => plain1_self (zerosA_plain (by simp; omega) hp _ v hv))
      refine ⟨ρ', v', w', ?_, h5, h6, h7⟩
      rw [← hrun, hr]
      simp [newRow]
    · cases hs
  · cases hs

/-! ### cuts -/
/-- A bound that is given, else d. -/
def bnd (d : Nat) (v : Option Value) : Option Nat :=
  match v with
  | none => some d
  | some (.int _ n) => if 0 ≤ n then some n.toNat else none
  | _ => none
def sSlice (sz : Nat) (x : Value) (lo hi mx : Option Value) : Option Value :=
  match x with
  | .slice none 0 0 =>
    (bnd 0 lo).bind fun l => (bnd 0 hi).bind fun h => (bnd 0 mx).bind fun m => if l = 0 ∧ h = 0 ∧ m = 0 ∧ (mx.isSome = true → hi.isSome = true) then some (.slice none 0 0) else none
  | .slice (some a) len code =>
    (bnd 0 lo).bind fun l => (bnd len hi).bind fun h => (bnd len mx).bind fun m =>
      if l ≤ h ∧ h ≤ m ∧ m ≤ len ∧ (mx.isSome = true → hi.isSome = true) then
        some (.slice (some (a.add (l * sz))) (h - l) (if mx.isSome then (if m = h then 1 else 2) else if l = 0 then (if code = 1 then (if h = len then 1 else 2) else code) else 2))
      else none
  | _ => none
def relO (c : Cx) (v v' : Option Value) : Prop := match v, v' with | none, none => True | some a, some b => r3 c a b | _, _ => False
theorem bnd_some (d d' : Nat) (q : Value) : bnd d (some q) = bnd d' (some q) := by cases q <;> rfl
theorem bnd_rel {c : Cx} {d : Nat} {v v' : Option Value} {n : Nat} (h : bnd d v = some n) (hv : relO c v v') :
    (v = none ∧ v' = none ∧ n = d) ∨ ∃ k q, v = some (.int k q) ∧ v' = some (.int k q) ∧ 0 ≤ q ∧ n = q.toNat := by
  cases v with
  | none => cases v' with
    | none => simp [bnd] at h; exact .inl ⟨rfl, rfl, h.symm⟩
    | some b => exact hv.elim
  | some a => cases v' with
    | none => exact hv.elim
    | some b =>
      cases a <;> simp only [bnd] at h <;> (try (cases h; done))
      rename_i k q
      split at h
      · rename_i hq
        cases h
        have e : b = .int k q := r3_int (c := c) hv
        exact .inr ⟨k, q, rfl, by rw [e], hq, rfl⟩
      · cases h
theorem run_sb {P : Program} {w : World} {k : IntKind} {q : Int} {y : Nat} {code : BoundsCode} (h0 : 0 ≤ q) (h1 : q ≤ y) : (Instr.sliceBound (.int k q) y code).run P w = .ok q.toNat w := run_sliceBound w k q y code h0 h1
/-- The three bounds, as the machine reckons them. -/
theorem run_bounds {P : Program} {w : World} {c : Cx} {lo lo' hi hi' mx mx' : Option Value} (hlo : relO c lo lo') (hhi : relO c hi hi') (hmx : relO c mx mx') {len cap l h m : Nat} (isS : Bool)
    (el : bnd 0 lo = some l) (eh : bnd len hi = some h) (em : bnd cap mx = some m) (h1 : l ≤ h) (h2 : h ≤ m) (h3 : m ≤ cap) (hm : mx.isSome = true → hi.isSome = true) :
    (Instr.sliceBounds isS len cap lo' hi' mx').run P w = .ok (l, h, m) w := by
  have al := bnd_rel el hlo
  have ah := bnd_rel eh hhi
  have am := bnd_rel em hmx
  unfold Instr.sliceBounds
  rcases am with ⟨rfl, rfl, rfl⟩ | ⟨km, qm, rfl, rfl, hm0, rfl⟩ <;> rcases ah with ⟨rfl, rfl, rfl⟩ | ⟨kh, qh, rfl, rfl, hh0, rfl⟩ <;>
    rcases al with ⟨rfl, rfl, rfl⟩ | ⟨kl, ql, rfl, rfl, hl0, rfl⟩ <;> simp only [Sem.run_bind, Sem.run_pure, Result.andThen_ok]
  · rw [run_sb hl0 (by omega)]; rfl
  · rw [run_sb hh0 (by omega)]; rfl
  · rw [run_sb hh0 (by omega), Result.andThen_ok, run_sb hl0 (by omega)]; rfl
  · exact absurd (hm rfl) (by simp)
  · exact absurd (hm rfl) (by simp)
  · rw [run_sb hm0 (by omega), Result.andThen_ok, run_sb hh0 (by omega)]; rfl
  · rw [run_sb hm0 (by omega), Result.andThen_ok, run_sb hh0 (by omega), Result.andThen_ok, run_sb hl0 (by omega)]; rfl
theorem stp_slice {P : Program} {H : Heap} {ρ : Nat → Nat × Nat} {w : World} (hR : Rep H ρ w) {t e : TypeId} {ie : TypeInfo} (ht : P.underlying t = some (.slice e)) (hie : P.info? e = some ie)
    {x x' v : Value} {lo lo' hi hi' mx mx' : Option Value} (hx : r3 (H.cx ρ) x x') (hlo : relO (H.cx ρ) lo lo') (hhi : relO (H.cx ρ) hi hi') (hmx : relO (H.cx ρ) mx mx')
    (hs : sSlice ie.size x lo hi mx = some v) : Stp P H ρ w (Instr.sliceAt t x' lo' hi' mx') v H := by
  unfold sSlice at hs
  have hat : (Instr.sliceAt t x' lo' hi' mx').run P w = (Instr.slice t x' lo' hi' mx').run P w := by simp [Instr.sliceAt, run_underlying ht]
  split at hs
  · have hx' : x' = .slice none 0 0 := hx
    subst hx'
    cases el : bnd 0 lo with
    | none => simp [el] at hs
    | some l =>
      cases eh : bnd 0 hi with
      | none => simp [el, eh] at hs
      | some h =>
        cases em : bnd 0 mx with
        | none => simp [el, eh, em] at hs
        | some m =>
          simp only [el, eh, em, Option.bind_some] at hs
          split at hs
          · rename_i hc
            obtain ⟨rfl, rfl, rfl, hm⟩ := hc
            cases hs
            have hb := run_bounds (P := P) (w := w) hlo hhi hmx true el eh em (Nat.le_refl _) (Nat.le_refl _) (Nat.le_refl _) hm
            refine Stp.same (v' := .slice none 0 0) hR ?_ rfl
            rw [hat]
            simp only [Instr.slice, Sem.run_bind, run_underlying ht, Result.andThen_ok, hb, run_sizeOf hie, Sem.run_pure]
            rfl
          · cases hs
  · rename_i a len code
    cases el : bnd 0 lo with
    | none => simp [el] at hs
    | some l =>
      cases eh : bnd len hi with
      | none => simp [el, eh] at hs
      | some h =>
        cases em : bnd len mx with
        | none => simp [el, eh, em] at hs
        | some m =>
          simp only [el, eh, em, Option.bind_some] at hs
          split at hs
          · rename_i hc
            obtain ⟨h1, h2, h3, hm⟩ := hc
            cases hs
            simp only [r3, r2, r1, r0] at hx
            obtain ⟨hok, a', cap', rfl, hle, hoff, h6, h7⟩ := hx
            -- the third bound on the machine's side
            obtain ⟨m', em', hm1, hm2, hm3⟩ : ∃ m', bnd cap' mx = some m' ∧ h ≤ m' ∧ m' ≤ cap' ∧ ((mx.isSome = true ∧ m' = m) ∨ (mx = none ∧ m' = cap' ∧ m = len)) := by
              cases mx with
              | none => simp [bnd] at em; exact ⟨cap', rfl, by omega, Nat.le_refl _, .inr ⟨rfl, rfl, em.symm⟩⟩
              | some q => exact ⟨m, (bnd_some _ _ q).trans em, h2, by omega, .inl ⟨rfl, rfl⟩⟩
            have hb := run_bounds (P := P) (w := w) hlo hhi hmx true el eh em' h1 hm1 hm2 hm
            refine Stp.same (v' := .slice (some (if m' = l then a' else a'.add (l * ie.size))) (h - l) (m' - l)) hR ?_ ?_
            · rw [hat]
              simp only [Instr.slice, Sem.run_bind, run_underlying ht, Result.andThen_ok, hb, run_sizeOf hie, Sem.run_pure]
              congr 2
              split <;> rfl
            · obtain ⟨hok2, hadd⟩ := Cx.addr_add (l * ie.size) hok
              have hbk : (a.add (l * ie.size)).block = a.block := by simp only [Addr.add]; split <;> rfl
              refine ⟨hok2, _, _, rfl, by omega, ?_, ?_, ?_⟩
              · intro hpos
                rw [if_neg (by omega), hoff (by omega)]
                exact hadd
              · intro hcode
                rcases hm3 with ⟨hms, rfl⟩ | ⟨rfl, rfl, rfl⟩
                · rw [if_pos hms] at hcode; split at hcode <;> cases hcode
                · simp only [Option.isSome_none, Bool.false_eq_true, if_false] at hcode
                  split at hcode
                  · rename_i hl0
                    subst hl0
                    split at hcode
                    · split at hcode <;> cases hcode
                    · obtain ⟨g1, g2, g3, g4⟩ := h6 hcode
                      subst g3
                      refine ⟨by rw [hbk]; exact g1, by simpa [Addr.add] using g2, ?_, by rw [hbk]; exact g4⟩
                      have : (H.cx ρ).addr a = (H.cx ρ).addr (a.add (0 * ie.size)) := by simp [Addr.add]
                      rw [← this]; split
                      · rfl
                      · simp [Addr.add]
                  · cases hcode
              · intro hcode
                rcases hm3 with ⟨hms, rfl⟩ | ⟨rfl, rfl, rfl⟩
                · rw [if_pos hms] at hcode
                  split at hcode
                  · rename_i he; omega
                  · cases hcode
                · simp only [Option.isSome_none, Bool.false_eq_true, if_false] at hcode
                  split at hcode
                  · rename_i hl0
                    subst hl0
                    split at hcode
                    · rename_i hc1
                      split at hcode
                      · rename_i hhl; have := h7 hc1; omega
                      · cases hcode
                    · rename_i hc1; exact absurd hcode hc1
                  · cases hcode
          · cases hs
  · cases hs
end Go.Ot
