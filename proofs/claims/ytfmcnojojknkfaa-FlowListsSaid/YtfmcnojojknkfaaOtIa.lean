/-
  Part Ia: maps.
-/
import Derived.Test.YtfmcnojojknkfaaOtI
import Derived.MapKept
import Derived.Carry
set_option linter.unusedVariables false
set_option linter.unusedSimpArgs false
namespace Go.Ot
open Go.RowKit

theorem r3_plain3_eq' {c : Cx} {v v' : Value} (h : plain0 v = true) (hr : r3 c v v') : v' = v := by
  cases v <;> simp [plain0] at h <;> first | exact hr | (rename_i a; cases a <;> simp [plain0] at h; exact hr) | (rename_i a n k; cases a <;> simp [plain0] at h; exact hr)
def keyOk : TypeDesc → Value → Bool
  | .bool, .bool _ => true
  | .int k, .int k' _ => k' == k
  | .string, .string _ => true
  | _, _ => false
theorem keyOk_is {d : TypeDesc} {k : Value} (h : keyOk d k = true) : MapKept.IsKey d k := by
  cases d <;> cases k <;> simp_all [keyOk, MapKept.IsKey]
theorem keyOk_plain {d : TypeDesc} {k : Value} (h : keyOk d k = true) : plain0 k = true := by
  cases d <;> cases k <;> simp_all [keyOk, plain0]
theorem sameNow_eq {d : TypeDesc} {k q : Value} (hk : keyOk d k = true) (h : Instr.sameNow d k q = some true) : q = k := by
  cases d <;> cases k <;> cases q <;> simp_all [keyOk, Instr.sameNow, MapKept.bytes_beq]
def mdecE : List Value → Option (List MEnt)
  | [] => some []
  | .tuple a :: es => match a.toList with
    | [k, v, .int .i64 b] => (mdecE es).map (⟨k, v, b.toNat⟩ :: ·)
    | _ => none
  | _ :: _ => none
def mdec : List Value → Option (Nat × List MEnt)
  | .int .i64 c :: es => (mdecE es).map (c.toNat, ·)
  | _ => none
theorem mdecE_map : ∀ es : List MEnt, mdecE (es.map (fun e => .tuple #[e.key, e.val, .int .i64 e.born])) = some es
  | [] => rfl
  | e :: es => by simp [mdecE, mdecE_map es]
theorem mdec_mcells (c : Nat) (es : List MEnt) : mdec (mcells c es) = some (c, es) := by simp [mdec, mcells, mdecE_map]
/-- The map of a number. -/
def Heap.mapAt (H : Heap) (m : Nat) : Option (Nat × List MEnt) := if m < H.B then none else (H.blk m).bind fun k => if k.sz = 0 ∧ k.ty = 0 then mdec k.cells else none
theorem mapAt_of {H : Heap} {m c : Nat} {es : List MEnt} (hB : ¬ m < H.B) (hk : H.blk m = some ⟨0, 0, mcells c es⟩) : H.mapAt m = some (c, es) := by
  simp [Heap.mapAt, hB, hk, mdec_mcells]
theorem Rep.mapAt {H : Heap} {ρ : Nat → Nat × Nat} {w : World} (h : Rep H ρ w) {m c : Nat} {es : List MEnt} (hm : H.mapAt m = some (c, es)) :
    ∃ k es', ¬ m < H.B ∧ H.blk m = some k ∧ k.sz = 0 ∧ k.ty = 0 ∧ w.heap[(ρ m).1]? = some (.map es' c) ∧ All2 (mEnt (H.cx ρ)) es es'.toList := by
  unfold Heap.mapAt at hm
  split at hm
  · cases hm
  · rename_i hB
    cases hk : H.blk m with
    | none => simp [hk] at hm
    | some k =>
      simp only [hk, Option.bind_some] at hm
      split at hm
      · rename_i h0
        obtain ⟨_, _, h3⟩ := h.oth _ _ hk h0.1
        rcases h3 with ⟨_, clock, fs, fs', e1, e2, e3⟩ | ⟨e, _⟩ | ⟨e, _⟩
        · rw [e1, mdec_mcells] at hm
          cases hm
          exact ⟨k, fs', hB, rfl, h0.1, h0.2, e2, e3⟩
        · rw [h0.2] at e; cases e
        · rw [h0.2] at e; cases e
      · cases hm
theorem mp_own {H : Heap} {ρ : Nat → Nat × Nat} {m : Nat} (h : ¬ m < H.B) : (H.cx ρ).mp m = (ρ m).1 := by
  have : ¬ m < (H.cx ρ).B := h
  simp [Cx.mp, this]; rfl
theorem Rep.setMap {H : Heap} {ρ : Nat → Nat × Nat} {w : World} (h : Rep H ρ w) {m c : Nat} {es : List MEnt} (hm : H.mapAt m = some (c, es)) (c2 : Nat) {es2 : List MEnt} {es2' : Array MapEntry} (hr : All2 (mEnt (H.cx ρ)) es2 es2'.toList) :
    Rep (H.put m (mcells c2 es2)) ρ { w with heap := w.heap.setIfInBounds (ρ m).1 (.map es2' c2) } := by
  obtain ⟨k, es', hB, hk, h0, ht, hw, _⟩ := h.mapAt hm
  have hfar := h.far hk
  have hlt := h.lt hk
  have hset := MapKept.heap_set (o' := .map es2' c2) hw
  refine h.putRow hk _ ?_ ?_ ?_
  · refine h.below.trans ⟨rfl, rfl, rfl, by simp, fun g hg => ?_⟩
    exact hset.2 g (by omega)
  · rw [if_neg (by omega)]
    exact ⟨hfar, h0, .inl ⟨ht, c2, es2, es2', rfl, hset.1, hr⟩⟩
  · intro g hg _
    exact hset.2 g hg
def mfind (d : TypeDesc) (k : Value) : List MEnt → Nat → Option (Option (Nat × Value))
  | [], _ => some none
  | e :: es, i => match Instr.sameNow d k e.key with
    | some true => some (some (i, e.val))
    | some false => mfind d k es (i + 1)
    | none => none
theorem find_rel {c : Cx} {d : TypeDesc} {k : Value} : ∀ {es : List MEnt} {es' : List MapEntry}, All2 (mEnt c) es es' → ∀ {i : Nat} {r : Option (Nat × Value)}, mfind d k es i = some r →
    (r = none ∧ Instr.findNow d k es' i = some none) ∨ ∃ j v v' e e', r = some (i + j, v) ∧ Instr.findNow d k es' i = some (some (i + j, v')) ∧ r2 c v v' ∧ es[j]? = some e ∧ es'[j]? = some e' ∧ mEnt c e e' ∧ Instr.sameNow d k e.key = some true
  | _, _, .nil, i, r, h => by cases h; exact .inl ⟨rfl, rfl⟩
  | _, _, .cons (a := e) (b := e') he hl, i, r, h => by
    simp only [mfind] at h
    obtain ⟨h1, h2, h3, h4⟩ := he
    split at h
    · rename_i hs
      cases h
      exact .inr ⟨0, e.val, e'.val, e, e', rfl, by simp [Instr.findNow, h2, hs], h4, rfl, rfl, ⟨h1, h2, h3, h4⟩, hs⟩
    · rename_i hs
      rcases find_rel hl h with ⟨q1, q2⟩ | ⟨j, v, v', f, f', q1, q2, q3, q4, q5, q6, q7⟩
      · exact .inl ⟨q1, by simp [Instr.findNow, h2, hs, q2]⟩
      · exact .inr ⟨j + 1, v, v', f, f', by rw [q1]; congr 2; omega, by simp [Instr.findNow, h2, hs, q2]; omega, q3, by simpa using q4, by simpa using q5, q6, q7⟩
    · cases h

/-! ### the operations -/
theorem stp_makeMap {P : Program} {H : Heap} {ρ : Nat → Nat × Nat} {w : World} (hR : Rep H ρ w) (t : TypeId) : Stp P H ρ w (Instr.makeMap t none) (.map (some H.next)) (H.new 0 0 (mcells 0 [])) := by
  have hN : H.N ≤ w.heap.size := hR.below.size
  have hadd := hR.add 0 0 (mcells 0 []) w.heap.size 0 (hR.below.alloc hN _) (w' := w.alloc (.map #[] 0)) (by
    rw [if_neg (by omega)]
    exact ⟨hN, rfl, .inl ⟨rfl, 0, [], #[], rfl, heap_alloc_new _ _, .nil⟩⟩) (by
    intro b k hk
    have := hR.lt hk
    exact ⟨by omega, heap_alloc_old _ _ this⟩)
  refine ⟨_, _, _, run_makeMap t w, ?_, hadd, le_new H ρ _ _ _ _⟩
  have hn : ¬ H.next < H.B := by have := hR.next; omega
  refine ⟨.inr (Nat.lt_succ_self _), ?_⟩
  have h1 : ¬ H.next < ((H.new 0 0 (mcells 0 [])).cx (up ρ H.next (w.heap.size, 0))).B := hn
  simp only [Cx.mp, if_neg h1]
  show _ = Value.map (some (up ρ H.next (w.heap.size, 0) H.next).1)
  rw [up_self]
def mFin (comma : Bool) (v : Value) (ok : Bool) : Value := if comma then .tuple #[v, .bool ok] else v
/-- Looking up. -/
def sLookup (H : Heap) (d : TypeDesc) (z : Value) (comma : Bool) (x k : Value) : Option Value :=
  if keyOk d k then match x with
    | .map none => some (mFin comma z false)
    | .map (some m) => (H.mapAt m).bind fun p => (mfind d k p.2 0).map fun r => match r with | some q => mFin comma q.2 true | none => mFin comma z false
    | _ => none
  else none
theorem r3_mFin {c : Cx} {v v' : Value} (comma b : Bool) (h : r2 c v v') : r3 c (mFin comma v b) (mFin comma v' b) := by
  unfold mFin
  cases comma
  · simpa using r3_of_r2 h
  · exact ⟨_, rfl, .cons h (.cons rfl .nil)⟩
theorem stp_lookup {P : Program} {H : Heap} {ρ : Nat → Nat × Nat} {w : World} (hR : Rep H ρ w) {xT kt et : TypeId} {d : TypeDesc} {ie : TypeInfo} {z : Value} (hx : P.underlying xT = some (.map kt et)) (hkt : P.underlying kt = some d)
    (hi : P.info? et = some ie) (hz : ie.zero = some z) (hp : plain2 z = true) {x x' k k' v : Value} {comma : Bool} (hrx : r3 (H.cx ρ) x x') (hrk : r3 (H.cx ρ) k k') (hs : sLookup H d z comma x k = some v) :
    Stp P H ρ w (Instr.lookup xT x' k' comma) v H := by
  unfold sLookup at hs
  split at hs
  · rename_i hko
    have hk' : k' = k := by
      have hp0 := keyOk_plain hko
      have := r3_plain3_eq' hp0 hrk
      exact this
    subst hk'
    have hkey := keyOk_is hko
    split at hs
    · cases hs
      have hx' : x' = .map none := hrx
      subst hx'
      refine Stp.same (v' := mFin comma z false) hR ?_ (r3_mFin comma false (plain2_self hp))
      have hf := MapKept.run_findKey (P := P) (w := w) (l := []) hkt (a := none) (k := k') rfl
      simp [Instr.lookup, run_underlying hx, MapKept.run_checkKey hkt hkey, hf, zeroValue, typeInfo, hi, hz, mFin, Result.andThen]
    · rename_i m
      cases hm : H.mapAt m with
      | none => simp [hm] at hs
      | some p =>
        obtain ⟨c, es⟩ := p
        simp only [hm, Option.bind_some] at hs
        obtain ⟨kb, es', hB, hk, h0, ht, hw, hall⟩ := hR.mapAt hm
        obtain ⟨_, hx'⟩ : _ ∧ x' = .map (some ((H.cx ρ).mp m)) := hrx
        rw [mp_own hB] at hx'
        subst hx'
        cases hmf : mfind d k' es 0 with
        | none => simp [hmf] at hs
        | some r =>
          rcases find_rel hall hmf with ⟨rfl, hf⟩ | ⟨j, u, u', e, e', rfl, hf, hu, _, _, _, _⟩
          · simp only [hmf, Option.map_some, Option.some.injEq] at hs
            subst hs
            refine Stp.same (v' := mFin comma z false) hR ?_ (r3_mFin comma false (plain2_self hp))
            simp [Instr.lookup, run_underlying hx, MapKept.run_getObj_map hw, MapKept.run_checkKey hkt hkey, MapKept.run_findKey hkt hf, zeroValue, typeInfo, hi, hz, mFin, Result.andThen]
          · simp only [hmf, Option.map_some, Option.some.injEq] at hs
            subst hs
            refine Stp.same (v' := mFin comma u' true) hR ?_ (r3_mFin comma true hu)
            simp [Instr.lookup, run_underlying hx, MapKept.run_getObj_map hw, MapKept.run_checkKey hkt hkey, MapKept.run_findKey hkt hf, mFin, Result.andThen]
    · cases hs
  · cases hs
/-- An entry is set. -/
def sMapUpdate (H : Heap) (d : TypeDesc) (x k v : Value) : Option Heap :=
  if keyOk d k = true ∧ notTup v = true then match x with
    | .map (some m) => (H.mapAt m).bind fun p => (mfind d k p.2 0).map fun r => match r with
      | some q => H.put m (mcells p.1 (p.2.modify q.1 fun e => { e with key := k, val := v }))
      | none => H.put m (mcells (p.1 + 1) (p.2 ++ [⟨k, v, p.1⟩]))
    | _ => none
  else none
theorem All2.modify {α β : Type} {R : α → β → Prop} {f : α → α} {g : β → β} : ∀ {l : List α} {m : List β} (i : Nat), All2 R l m → (∀ a b, l[i]? = some a → m[i]? = some b → R a b → R (f a) (g b)) → All2 R (l.modify i f) (m.modify i g)
  | _, _, i, .nil, _ => by simp; exact .nil
  | _, _, 0, .cons h hl, hf => .cons (hf _ _ rfl rfl h) hl
  | _, _, i + 1, .cons h hl, hf => by
    simp only [List.modify_succ_cons]
    exact .cons h (All2.modify i hl (fun a b ha hb => hf a b (by simpa using ha) (by simpa using hb)))
theorem stp_mapUpdate {P : Program} {H H' : Heap} {ρ : Nat → Nat × Nat} {w : World} (hR : Rep H ρ w) {xT kt et : TypeId} {d : TypeDesc} (hx : P.underlying xT = some (.map kt et)) (hkt : P.underlying kt = some d)
    {x x' k k' v v' : Value} (hrx : r3 (H.cx ρ) x x') (hrk : r3 (H.cx ρ) k k') (hrv : r3 (H.cx ρ) v v') (hs : sMapUpdate H d x k v = some H') :
    ∃ w', (Instr.mapUpdate xT x' k' v').run P w = .ok () w' ∧ Rep H' ρ w' ∧ H'.base = H.base ∧ H'.next = H.next := by
  unfold sMapUpdate at hs
  split at hs
  · rename_i hc
    obtain ⟨hko, hnt⟩ := hc
    have hv2 := r2_of_r3 (notTup_ne hnt) hrv
    have hk' : k' = k := r3_plain3_eq' (keyOk_plain hko) hrk
    subst hk'
    have hkey := keyOk_is hko
    split at hs
    · rename_i m
      cases hm : H.mapAt m with
      | none => simp [hm] at hs
      | some p =>
        obtain ⟨c, es⟩ := p
        simp only [hm, Option.bind_some] at hs
        obtain ⟨kb, es', hB, hk, h0, ht, hw, hall⟩ := hR.mapAt hm
        obtain ⟨_, hx'⟩ : _ ∧ x' = .map (some ((H.cx ρ).mp m)) := hrx
        rw [mp_own hB] at hx'
        subst hx'
        cases hmf : mfind d k' es 0 with
        | none => simp [hmf] at hs
        | some r =>
          rcases find_rel hall hmf with ⟨rfl, hf⟩ | ⟨j, u, u', e, e', rfl, hf, hu, hej, hej', hme, hsame⟩
          · simp only [hmf, Option.map_some, Option.some.injEq] at hs
            subst hs
            have hall2 : All2 (mEnt (H.cx ρ)) (es ++ [⟨k', v, c⟩]) (es'.push { key := k', val := v', born := c }).toList := by
              rw [Array.toList_push]
              exact hall.append (.cons ⟨keyOk_plain hko, rfl, rfl, hv2⟩ .nil)
            refine ⟨_, ?_, hR.setMap hm (c + 1) hall2, rfl, rfl⟩
            simp [Instr.mapUpdate, run_underlying hx, MapKept.run_getObj_map hw, MapKept.run_checkKey hkt hkey, MapKept.run_findKey hkt hf, MapKept.run_setObj_map _ hw, Result.andThen]
          · simp only [hmf, Option.map_some, Option.some.injEq] at hs
            subst hs
            simp only [Nat.zero_add] at hf ⊢
            have hkk : e.key = k' := sameNow_eq hko hsame
            have hj : es'[j]? = some e' := by simpa using hej'
            have hkk' : e'.key = k' := hme.2.1.trans hkk
            have hall2 : All2 (mEnt (H.cx ρ)) (es.modify j fun e => { e with key := k', val := v }) (es'.modify j fun e => { e with key := k', val := v' }).toList := by
              rw [Array.toList_modify]
              refine All2.modify j hall (fun a b ha hb hab => ⟨keyOk_plain hko, rfl, hab.2.2.1, hv2⟩)
            refine ⟨_, ?_, hR.setMap hm c hall2, rfl, rfl⟩
            simp [Instr.mapUpdate, run_underlying hx, MapKept.run_getObj_map hw, MapKept.run_checkKey hkt hkey, MapKept.run_findKey hkt hf, hj, hkk', MapKept.run_keyThatStays hkey, MapKept.run_setObj_map _ hw, Result.andThen]
    · cases hs
  · cases hs
/-- An entry is looked up, to be set. -/
def sMapEntry (H : Heap) (d : TypeDesc) (z : Value) (x k : Value) : Option (Value × Heap) :=
  if keyOk d k then match x with
    | .map (some m) => (H.mapAt m).bind fun p => (mfind d k p.2 0).bind fun r => match r with
      | some q => (p.2[q.1]?).map fun e => (.tuple #[q.2, .int .i64 e.born], H.put m (mcells p.1 (p.2.modify q.1 fun e => { e with key := k })))
      | none => some (.tuple #[z, .int .i64 p.1], H.put m (mcells (p.1 + 1) (p.2 ++ [⟨k, z, p.1⟩])))
    | _ => none
  else none
theorem stp_mapEntry {P : Program} {H H' : Heap} {ρ : Nat → Nat × Nat} {w : World} (hR : Rep H ρ w) {xT kt et : TypeId} {d : TypeDesc} {ie : TypeInfo} {z : Value} (hx : P.underlying xT = some (.map kt et)) (hkt : P.underlying kt = some d)
    (hi : P.info? et = some ie) (hz : ie.zero = some z) (hp : plain2 z = true) {x x' k k' v : Value} (hrx : r3 (H.cx ρ) x x') (hrk : r3 (H.cx ρ) k k') (hs : sMapEntry H d z x k = some (v, H')) :
    Stp P H ρ w (Instr.mapEntry xT x' k') v H' := by
  unfold sMapEntry at hs
  split at hs
  · rename_i hko
    have hk' : k' = k := r3_plain3_eq' (keyOk_plain hko) hrk
    subst hk'
    have hkey := keyOk_is hko
    split at hs
    · rename_i m
      cases hm : H.mapAt m with
      | none => simp [hm] at hs
      | some p =>
        obtain ⟨c, es⟩ := p
        simp only [hm, Option.bind_some] at hs
        obtain ⟨kb, es', hB, hk, h0, ht, hw, hall⟩ := hR.mapAt hm
        obtain ⟨_, hx'⟩ : _ ∧ x' = .map (some ((H.cx ρ).mp m)) := hrx
        rw [mp_own hB] at hx'
        subst hx'
        cases hmf : mfind d k' es 0 with
        | none => simp [hmf] at hs
        | some r =>
          rcases find_rel hall hmf with ⟨rfl, hf⟩ | ⟨j, u, u', e, e', rfl, hf, hu, hej, hej', hme, hsame⟩
          · simp only [hmf, Option.bind_some, Option.some.injEq, Prod.mk.injEq] at hs
            obtain ⟨rfl, rfl⟩ := hs
            have hall2 : All2 (mEnt (H.cx ρ)) (es ++ [⟨k', z, c⟩]) (es'.push { key := k', val := z, born := c }).toList := by
              rw [Array.toList_push]
              exact hall.append (.cons ⟨keyOk_plain hko, rfl, rfl, plain2_self hp⟩ .nil)
            refine ⟨ρ, .tuple #[z, .int .i64 c], _, ?_, ⟨_, rfl, .cons (plain2_self hp) (.cons rfl .nil)⟩, hR.setMap hm (c + 1) hall2, le_same H ρ rfl (Nat.le_refl _)⟩
            simp [Instr.mapEntry, run_underlying hx, MapKept.run_getObj_map hw, MapKept.run_checkKey hkt hkey, MapKept.run_findKey hkt hf, MapKept.run_setObj_map _ hw, zeroValue, typeInfo, hi, hz, goInt, Result.andThen]
          · simp only [Nat.zero_add] at hf
            simp only [hmf, Option.bind_some, Nat.zero_add, hej, Option.map_some, Option.some.injEq, Prod.mk.injEq] at hs
            obtain ⟨rfl, rfl⟩ := hs
            have hkk : e.key = k' := sameNow_eq hko hsame
            have hj : es'[j]? = some e' := by simpa using hej'
            have hkk' : e'.key = k' := hme.2.1.trans hkk
            have hall2 : All2 (mEnt (H.cx ρ)) (es.modify j fun e => { e with key := k' }) (es'.modify j fun e => { e with key := k' }).toList := by
              rw [Array.toList_modify]
              refine All2.modify j hall (fun a b ha hb hab => ⟨keyOk_plain hko, rfl, hab.2.2.1, hab.2.2.2⟩)
            refine ⟨ρ, .tuple #[u', .int .i64 e.born], _, ?_, ⟨_, rfl, .cons hu (.cons rfl .nil)⟩, hR.setMap hm c hall2, le_same H ρ rfl (Nat.le_refl _)⟩
            simp [Instr.mapEntry, run_underlying hx, MapKept.run_getObj_map hw, MapKept.run_checkKey hkt hkey, MapKept.run_findKey hkt hf, hj, hkk', MapKept.run_keyThatStays hkey, MapKept.run_setObj_map _ hw, goInt, hme.2.2.1, Result.andThen]
    · cases hs
  · cases hs
def sEntryStore (H : Heap) (x s v : Value) : Option Heap :=
  if notTup v = true then match x, s with
    | .map (some m), .int _ b => (H.mapAt m).bind fun p => (p.2.findIdx? (fun e => (e.born : Int) == b)).map fun i => H.put m (mcells p.1 (p.2.modify i fun e => { e with val := v }))
    | _, _ => none
  else none
theorem findIdx_rel {c : Cx} {b : Int} : ∀ {es : List MEnt} {es' : List MapEntry}, All2 (mEnt c) es es' → es'.findIdx? (fun e => (e.born : Int) == b) = es.findIdx? (fun e => (e.born : Int) == b)
  | _, _, .nil => rfl
  | _, _, .cons (a := e) (b := e') he hl => by
    simp only [List.findIdx?_cons, he.2.2.1, findIdx_rel hl]
theorem stp_entryStore {P : Program} {H H' : Heap} {ρ : Nat → Nat × Nat} {w : World} (hR : Rep H ρ w) (xT : TypeId)
    {x x' k k' v v' : Value} (hrx : r3 (H.cx ρ) x x') (hrk : r3 (H.cx ρ) k k') (hrv : r3 (H.cx ρ) v v') (hs : sEntryStore H x k v = some H') :
    ∃ w', (Instr.entryStore xT x' k' v').run P w = .ok () w' ∧ Rep H' ρ w' ∧ H'.base = H.base ∧ H'.next = H.next := by
  unfold sEntryStore at hs
  split at hs
  · rename_i hnt
    have hv2 := r2_of_r3 (notTup_ne hnt) hrv
    split at hs
    · rename_i m kk b
      have hk' : k' = .int kk b := hrk
      subst hk'
      cases hm : H.mapAt m with
      | none => simp [hm] at hs
      | some p =>
        obtain ⟨c, es⟩ := p
        simp only [hm, Option.bind_some] at hs
        obtain ⟨kb, es', hB, hk, h0, ht, hw, hall⟩ := hR.mapAt hm
        obtain ⟨_, hx'⟩ : _ ∧ x' = .map (some ((H.cx ρ).mp m)) := hrx
        rw [mp_own hB] at hx'
        subst hx'
        cases hfi : es.findIdx? (fun e => (e.born : Int) == b) with
        | none => simp [hfi] at hs
        | some i =>
          simp only [hfi, Option.map_some, Option.some.injEq] at hs
          subst hs
          have hfi' : es'.findIdx? (fun e => (e.born : Int) == b) = some i := by
            cases es' with | mk l => rw [List.findIdx?_toArray, findIdx_rel hall]; exact hfi
          have hall2 : All2 (mEnt (H.cx ρ)) (es.modify i fun e => { e with val := v }) (es'.modify i fun e => { e with val := v' }).toList := by
            rw [Array.toList_modify]
            refine All2.modify i hall (fun a b ha hb hab => ⟨hab.1, hab.2.1, hab.2.2.1, hv2⟩)
          refine ⟨_, ?_, hR.setMap hm c hall2, rfl, rfl⟩
          simp [Instr.entryStore, MapKept.run_getObj_map hw, asInt, asIntOf, hfi', MapKept.run_setObj_map _ hw, Result.andThen]
    · cases hs
  · cases hs
/-- An entry goes. -/
def sDelete (H : Heap) (d : TypeDesc) (x k : Value) : Option Heap :=
  if keyOk d k then match x with
    | .map none => some H
    | .map (some m) => (H.mapAt m).bind fun p => (mfind d k p.2 0).map fun r => match r with
      | some q => H.put m (mcells p.1 (p.2.eraseIdx q.1))
      | none => H.put m (mcells p.1 p.2)
    | _ => none
  else none
theorem All2.eraseIdx {α β : Type} {R : α → β → Prop} : ∀ {l : List α} {m : List β} (i : Nat), All2 R l m → All2 R (l.eraseIdx i) (m.eraseIdx i)
  | _, _, i, .nil => by simp; exact .nil
  | _, _, 0, .cons h hl => hl
  | _, _, i + 1, .cons h hl => .cons h (All2.eraseIdx i hl)
theorem stp_delete {P : Program} {H H' : Heap} {ρ : Nat → Nat × Nat} {w : World} (hR : Rep H ρ w) {xT kt et t2 ty : TypeId} {d : TypeDesc} (hx : P.underlying xT = some (.map kt et)) (hkt : P.underlying kt = some d)
    {x x' k k' : Value} (hrx : r3 (H.cx ρ) x x') (hrk : r3 (H.cx ρ) k k') (hs : sDelete H d x k = some H') :
    Stp P H ρ w (Builtin.delete_ #[xT, t2] ty #[x', k']) undef H' := by
  unfold sDelete at hs
  split at hs
  · rename_i hko
    have hk' : k' = k := r3_plain3_eq' (keyOk_plain hko) hrk
    subst hk'
    have hkey := keyOk_is hko
    split at hs
    · cases hs
      have hx' : x' = .map none := hrx
      subst hx'
      refine Stp.same (v' := undef) hR ?_ ⟨#[], rfl, .nil⟩
      simp [Builtin.delete_, run_underlying hx, MapKept.run_checkKey hkt hkey, Result.andThen]
      rfl
    · rename_i m
      cases hm : H.mapAt m with
      | none => simp [hm] at hs
      | some p =>
        obtain ⟨c, es⟩ := p
        simp only [hm, Option.bind_some] at hs
        obtain ⟨kb, es', hB, hk, h0, ht, hw, hall⟩ := hR.mapAt hm
        obtain ⟨_, hx'⟩ : _ ∧ x' = .map (some ((H.cx ρ).mp m)) := hrx
        rw [mp_own hB] at hx'
        subst hx'
        cases hmf : mfind d k' es 0 with
        | none => simp [hmf] at hs
        | some r =>
          rcases find_rel hall hmf with ⟨rfl, hf⟩ | ⟨j, u, u', e, e', rfl, hf, hu, hej, hej', hme, hsame⟩
          · simp only [hmf, Option.map_some, Option.some.injEq] at hs
            subst hs
            refine ⟨ρ, undef, _, ?_, ⟨#[], rfl, .nil⟩, hR.setMap hm c hall, le_same H ρ rfl (Nat.le_refl _)⟩
            simp [Builtin.delete_, run_underlying hx, MapKept.run_getObj_map hw, MapKept.run_checkKey hkt hkey, MapKept.run_findKey hkt hf, MapKept.run_setObj_map _ hw, Result.andThen]
            rfl
          · simp only [Nat.zero_add] at hf
            simp only [hmf, Option.map_some, Nat.zero_add, Option.some.injEq] at hs
            subst hs
            have hlt : j < es'.size := by
              have := (List.getElem?_eq_some_iff.1 hej').1
              simpa using this
            have hall2 : All2 (mEnt (H.cx ρ)) (es.eraseIdx j) (es'.eraseIdxIfInBounds j).toList := by
              have : (es'.eraseIdxIfInBounds j).toList = es'.toList.eraseIdx j := by
                unfold Array.eraseIdxIfInBounds
                rw [dif_pos hlt, Array.toList_eraseIdx]
              rw [this]
              exact All2.eraseIdx j hall
            refine ⟨ρ, undef, _, ?_, ⟨#[], rfl, .nil⟩, hR.setMap hm c hall2, le_same H ρ rfl (Nat.le_refl _)⟩
            simp [Builtin.delete_, run_underlying hx, MapKept.run_getObj_map hw, MapKept.run_checkKey hkt hkey, MapKept.run_findKey hkt hf, MapKept.run_setObj_map _ hw, Result.andThen]
            rfl
    · cases hs
  · cases hs
def sLenM (H : Heap) (x : Value) : Option Value :=
  match x with
  | .map none => some (.int .i64 0)
  | .map (some m) => (H.mapAt m).map fun p => .int .i64 (p.2.length : Nat)
  | _ => none
theorem stp_lenM {P : Program} {H : Heap} {ρ : Nat → Nat × Nat} {w : World} (hR : Rep H ρ w) {xT kt et ty : TypeId} (hx : P.underlying xT = some (.map kt et)) {x x' v : Value} (hrx : r3 (H.cx ρ) x x') (hs : sLenM H x = some v) :
    Stp P H ρ w (Builtin.len_ #[xT] ty #[x']) v H := by
  unfold sLenM at hs
  split at hs
  · cases hs
    have hx' : x' = .map none := hrx
    subst hx'
    refine Stp.same (v' := .int .i64 0) hR ?_ rfl
    simp [Builtin.len_, run_underlying hx, goInt, Result.andThen]
  · rename_i m
    cases hm : H.mapAt m with
    | none => simp [hm] at hs
    | some p =>
      obtain ⟨c, es⟩ := p
      simp only [hm, Option.map_some, Option.some.injEq] at hs
      subst hs
      obtain ⟨kb, es', hB, hk, h0, ht, hw, hall⟩ := hR.mapAt hm
      obtain ⟨_, hx'⟩ : _ ∧ x' = .map (some ((H.cx ρ).mp m)) := hrx
      rw [mp_own hB] at hx'
      subst hx'
      have hl : es.length = es'.size := by simpa using hall.length
      refine Stp.same (v' := .int .i64 es.length) hR ?_ rfl
      simp [Builtin.len_, run_underlying hx, MapKept.run_getObj_map hw, goInt, hl, Result.andThen]
  · cases hs
/-- A row is filled with zeros, or a map is made empty. -/
def sClear (H : Heap) (sz : Nat) (z : List Value) (x : Value) : Option Heap :=
  match x with
  | .slice none _ _ => some H
  | .slice (some a) n _ => if n = 0 then some H else Heap.storeN a 0 (zerosA z (n * sz)) H
  | _ => none
theorem zeroCells_eq {z : Value} {n : Nat} (h : 0 < z.cells.size) : (Builtin.zeroCells z.cells n).toList = zerosA z.cells.toList (n * z.cells.size) := zeros_eq h
theorem stp_clear {P : Program} {H H' : Heap} {ρ : Nat → Nat × Nat} {w : World} (hR : Rep H ρ w) {t e ty : TypeId} {i : TypeInfo} {z : Value} (ht : P.underlying t = some (.slice e)) (hi : P.info? e = some i) (hz : i.zero = some z)
    (hzs : z.cells.size = i.size) (hpos : 0 < i.size) (hp : ∀ v ∈ z.cells.toList, plain1 v = true) {x x' : Value} (hx : r3 (H.cx ρ) x x') (hs : sClear H i.size z.cells.toList x = some H') :
    Stp P H ρ w (Builtin.clear_ #[t] ty #[x']) undef H' := by
  unfold sClear at hs
  split at hs
  · rename_i n k
    cases hs
    have hx' : x' = .slice none n k := hx
    subst hx'
    refine Stp.same (v' := undef) hR ?_ ⟨#[], rfl, .nil⟩
    simp [Builtin.clear_, run_underlying ht, Result.andThen]
    rfl
  · rename_i a n k
    obtain ⟨hok, a', cap', rfl, hle, hoff, _, _⟩ : (H.cx ρ).ok a ∧ ∃ a' cap', x' = .slice (some a') n cap' ∧ n ≤ cap' ∧ (0 < n → a' = (H.cx ρ).addr a) ∧ _ ∧ _ := hx
    split at hs
    · rename_i h0
      cases hs
      subst h0
      refine Stp.same (v' := undef) hR ?_ ⟨#[], rfl, .nil⟩
      simp [Builtin.clear_, run_underlying ht, Result.andThen]
      rfl
    · rename_i h0
      have ha := hoff (by omega)
      subst ha
      have hpl : ∀ v ∈ zerosA z.cells.toList (n * i.size), plain1 v = true := zerosA_plain (by simp; omega) hp _
      obtain ⟨w', hrun, hR', hb, hn⟩ := Rep.storeN (P := P) hR hok hs (All2.of_same fun v hv => plain1_self (hpl v hv))
      refine ⟨ρ, undef, w', ?_, ⟨#[], rfl, .nil⟩, hR', le_same H ρ hb (by omega)⟩
      cases n with
      | zero => omega
      | succ n =>
        have e : (Builtin.zeroCells z.cells (n + 1)).toList = zerosA z.cells.toList ((n + 1) * i.size) := by rw [zeroCells_eq (by omega), hzs]
        simp [Builtin.clear_, run_underlying ht, zeroValue, typeInfo, hi, hz, e, hrun, Result.andThen]
        rfl
  · cases hs
/-- What an interface value holds, if it is of such a type. -/
def sAssert (ty : TypeId) (z : Value) (comma : Bool) (x : Value) : Option Value :=
  match x with
  | .nilIface => if comma then some (.tuple #[z, .bool false]) else none
  | .iface t v => if t = ty then some (if comma then .tuple #[v, .bool true] else v) else if comma then some (.tuple #[z, .bool false]) else none
  | _ => none
def notIface (d : TypeDesc) : Bool := match d with | .interface _ => false | _ => true
theorem stp_assert {P : Program} {H : Heap} {ρ : Nat → Nat × Nat} {w : World} (hR : Rep H ρ w) {xT ty : TypeId} {d : TypeDesc} {i : TypeInfo} {z : Value} (hd : P.underlying ty = some d) (hdi : notIface d = true) (hi : P.info? ty = some i) (hz : i.zero = some z) (hp : plain2 z = true)
    {x x' v : Value} {comma : Bool} (hx : r3 (H.cx ρ) x x') (hs : sAssert ty z comma x = some v) : Stp P H ρ w (Instr.typeAssert x' xT ty comma) v H := by
  unfold sAssert at hs
  split at hs
  · have hx' : x' = .nilIface := hx
    subst hx'
    cases comma with
    | false => simp at hs
    | true =>
      simp only [if_true, Option.some.injEq] at hs
      subst hs
      refine Stp.same (v' := .tuple #[z, .bool false]) hR ?_ ⟨_, rfl, .cons (plain2_self hp) (.cons rfl .nil)⟩
      cases d <;> simp_all [Instr.typeAssert, run_underlying hd, zeroValue, typeInfo, Result.andThen, notIface]
  · rename_i t u
    obtain ⟨u', hx', hu⟩ : ∃ u', x' = .iface t u' ∧ r0i (H.cx ρ) u u' := hx
    subst hx'
    split at hs
    · rename_i ht
      subst ht
      cases comma with
      | false =>
        simp only [Bool.false_eq_true, if_false, Option.some.injEq] at hs
        subst hs
        refine Stp.same (v' := u') hR ?_ (r3_of_r0i hu)
        cases d <;> simp_all [Instr.typeAssert, run_underlying hd, Result.andThen, notIface]
      | true =>
        simp only [if_true, Option.some.injEq] at hs
        subst hs
        refine Stp.same (v' := .tuple #[u', .bool true]) hR ?_ ⟨_, rfl, .cons (r2_of_r0i hu) (.cons rfl .nil)⟩
        cases d <;> simp_all [Instr.typeAssert, run_underlying hd, Result.andThen, notIface]
    · rename_i ht
      cases comma with
      | false => simp at hs
      | true =>
        simp only [if_true, Option.some.injEq] at hs
        subst hs
        refine Stp.same (v' := .tuple #[z, .bool false]) hR ?_ ⟨_, rfl, .cons (plain2_self hp) (.cons rfl .nil)⟩
        cases d <;> simp_all [Instr.typeAssert, run_underlying hd, zeroValue, typeInfo, Result.andThen, notIface]
  · cases hs
/-- How a method's receiver comes of an interface's value: it is it, or it is what it points to. -/
inductive RMode where
  | same
  | load (agg : Bool) (n : Nat)
def recvOf (H : Heap) : RMode → Value → Option Value
  | .same, u => some u
  | .load b n, u => match u with
    | .pointer (some a) => sLoad H b n (.pointer (some a))
    | _ => none

/-! ### going through a map -/
def idecE : List Value → Option (List Nat)
  | [] => some []
  | .int .i64 n :: es => (idecE es).map (n.toNat :: ·)
  | _ :: _ => none
structure Itr where
  om : Option Nat
  since : Nat
  seen : List Nat
  last : Nat
def idec : List Value → Option Itr
  | .map om :: .int .i64 since :: .int .i64 last :: es => (idecE es).map fun seen => ⟨om, since.toNat, seen, last.toNat⟩
  | _ => none
theorem idecE_map : ∀ seen : List Nat, idecE (seen.map fun (n : Nat) => (.int .i64 (n : Int) : Value)) = some seen
  | [] => rfl
  | n :: seen => by simp [idecE, idecE_map seen]
theorem idec_icells (om : Option Nat) (since : Nat) (seen : List Nat) (last : Nat) : idec (icells om since seen last) = some ⟨om, since, seen, last⟩ := by simp [idec, icells, idecE_map]
def Itr.cells (q : Itr) : List Value := icells q.om q.since q.seen q.last
/-- What stands at the number of one who goes through a map. -/
def Heap.iterAt (H : Heap) (b : Nat) : Option Itr := if b < H.B then none else (H.blk b).bind fun k => if k.sz = 0 ∧ k.ty = 2 then idec k.cells else none
theorem iterAt_of {H : Heap} {b : Nat} {q : Itr} (hB : ¬ b < H.B) (hk : H.blk b = some ⟨2, 0, q.cells⟩) : H.iterAt b = some q := by
  simp [Heap.iterAt, hB, hk, Itr.cells, idec_icells]
theorem Rep.iterAt {H : Heap} {ρ : Nat → Nat × Nat} {w : World} (h : Rep H ρ w) {b : Nat} {q : Itr} (hm : H.iterAt b = some q) :
    ∃ k om', ¬ b < H.B ∧ H.blk b = some k ∧ k.sz = 0 ∧ k.ty = 2 ∧ r0 (H.cx ρ) (.map q.om) (.map om') ∧ w.heap[(ρ b).1]? = some (.mapIter om' q.since q.seen.toArray q.last) := by
  unfold Heap.iterAt at hm
  split at hm
  · cases hm
  · rename_i hB
    cases hk : H.blk b with
    | none => simp [hk] at hm
    | some k =>
      simp only [hk, Option.bind_some] at hm
      split at hm
      · rename_i h0
        obtain ⟨_, _, h3⟩ := h.oth _ _ hk h0.1
        rcases h3 with ⟨e, _⟩ | ⟨e, _⟩ | ⟨_, om, om', since, seen, last, e1, e2, e3⟩
        · rw [h0.2] at e; cases e
        · rw [h0.2] at e; cases e
        · rw [e1, idec_icells] at hm
          cases hm
          exact ⟨k, om', hB, rfl, h0.1, h0.2, e2, e3⟩
      · cases hm
theorem run_getObj_iter {P : Program} {w : World} {r : Nat} {om : Option Nat} {since : Nat} {seen : Array Nat} {last : Nat} (hb : w.heap[r]? = some (.mapIter om since seen last)) : (getObj r).run P w = .ok (.mapIter om since seen last) w := by
  simp [getObj, Sem.run, hb]
theorem run_setObj_iter {P : Program} {w : World} {r : Nat} {om : Option Nat} {since : Nat} {seen : Array Nat} {last : Nat} (o : Obj) (hb : w.heap[r]? = some (.mapIter om since seen last)) : (setObj r o).run P w = .ok () { w with heap := w.heap.setIfInBounds r o } := by
  simp [setObj, Sem.run, hb]
theorem heap_set_iter {w : World} {r : Nat} {om : Option Nat} {since : Nat} {seen : Array Nat} {last : Nat} {o' : Obj} (hb : w.heap[r]? = some (.mapIter om since seen last)) :
    ({ w with heap := w.heap.setIfInBounds r o' } : World).heap[r]? = some o' ∧ ∀ g, g ≠ r → ({ w with heap := w.heap.setIfInBounds r o' } : World).heap[g]? = w.heap[g]? := by
  have hlt := (Array.getElem?_eq_some_iff.1 hb).1
  refine ⟨by simp [hlt], fun g hg => ?_⟩
  simp only [Array.getElem?_setIfInBounds]
  rw [if_neg (fun e => hg e.symm)]
theorem Rep.setIter {H : Heap} {ρ : Nat → Nat × Nat} {w : World} (h : Rep H ρ w) {b : Nat} {q : Itr} (hm : H.iterAt b = some q) {om' : Option Nat} (hr : r0 (H.cx ρ) (.map q.om) (.map om')) (seen : List Nat) (last : Nat) :
    Rep (H.put b (icells q.om q.since seen last)) ρ { w with heap := w.heap.setIfInBounds (ρ b).1 (.mapIter om' q.since seen.toArray last) } := by
  obtain ⟨k, om2, hB, hk, h0, ht, _, hw⟩ := h.iterAt hm
  have hfar := h.far hk
  have hlt := h.lt hk
  have hset := heap_set_iter (o' := .mapIter om' q.since seen.toArray last) hw
  refine h.putRow hk _ ?_ ?_ ?_
  · refine h.below.trans ⟨rfl, rfl, rfl, by simp, fun g hg => ?_⟩
    exact hset.2 g (by omega)
  · rw [if_neg (by omega)]
    exact ⟨hfar, h0, .inr (.inr ⟨ht, q.om, om', q.since, seen, last, rfl, hr, hset.1⟩)⟩
  · intro g hg _
    exact hset.2 g hg
/-- One begins to go through a map. -/
def sRange (H : Heap) (x : Value) : Option (Value × Heap) := match x with
  | .map none => some (.pointer (some ⟨H.next, 0, none⟩), H.new 2 0 (icells none 0 [] 0))
  | .map (some m) => (H.mapAt m).map fun p => (.pointer (some ⟨H.next, 0, none⟩), H.new 2 0 (icells (some m) p.1 [] p.1))
  | _ => none
theorem stp_range {P : Program} {H H' : Heap} {ρ : Nat → Nat × Nat} {w : World} (hR : Rep H ρ w) {xT kt et : TypeId} (hx : P.underlying xT = some (.map kt et)) {x x' v : Value} (hrx : r3 (H.cx ρ) x x') (hs : sRange H x = some (v, H')) :
    Stp P H ρ w (Instr.range xT x') v H' := by
  have hN : H.N ≤ w.heap.size := hR.below.size
  have key : ∀ (om om' : Option Nat) (c : Nat), r0 (H.cx ρ) (.map om) (.map om') → Rep (H.new 2 0 (icells om c [] c)) (up ρ H.next (w.heap.size, 0)) (w.alloc (.mapIter om' c #[] c)) := by
    intro om om' c hr
    refine hR.add 2 0 _ w.heap.size 0 (hR.below.alloc hN _) ?_ ?_
    · rw [if_neg (by omega)]
      exact ⟨hN, rfl, .inr (.inr ⟨rfl, om, om', c, [], c, rfl, r0_mono (le_new H ρ _ _ _ _) hr, heap_alloc_new _ _⟩)⟩
    · intro b k hk
      have := hR.lt hk
      exact ⟨by omega, heap_alloc_old _ _ this⟩
  have ptrR : ∀ (cs : List Value), r3 ((H.new 2 0 cs).cx (up ρ H.next (w.heap.size, 0))) (.pointer (some ⟨H.next, 0, none⟩)) (.pointer (some ⟨w.heap.size, 0, none⟩)) := by
    intro cs
    have hn : ¬ H.next < H.B := by have := hR.next; omega
    have h1 : ¬ H.next < ((H.new 2 0 cs).cx (up ρ H.next (w.heap.size, 0))).B := hn
    refine ⟨.inr ⟨Nat.lt_succ_self _, rfl⟩, ?_⟩
    simp only [Cx.addr, if_neg h1]
    show _ = Value.pointer (some ⟨(up ρ H.next (w.heap.size, 0) H.next).1, 0, none⟩)
    rw [up_self]
  unfold sRange at hs
  split at hs
  · cases hs
    have hx' : x' = .map none := hrx
    subst hx'
    refine ⟨_, _, _, ?_, ptrR _, key none none 0 rfl, le_new H ρ _ _ _ _⟩
    simp [Instr.range, run_underlying hx, Result.andThen, newObj, Sem.run]
  · rename_i m
    cases hm : H.mapAt m with
    | none => simp [hm] at hs
    | some p =>
      obtain ⟨c, es⟩ := p
      simp only [hm, Option.map_some, Option.some.injEq, Prod.mk.injEq] at hs
      obtain ⟨rfl, rfl⟩ := hs
      obtain ⟨kb, es', hB, hk, h0, ht, hw, hall⟩ := hR.mapAt hm
      have hrx0 : r0 (H.cx ρ) (.map (some m)) x' := hrx
      obtain ⟨_, hx'⟩ : _ ∧ x' = .map (some ((H.cx ρ).mp m)) := hrx
      have hmp := hx'
      rw [mp_own hB] at hx'
      subst hx'
      refine ⟨_, _, _, ?_, ptrR _, key (some m) (some (ρ m).1) c hrx0, le_new H ρ _ _ _ _⟩
      simp [Instr.range, run_underlying hx, MapKept.run_getObj_map hw, Result.andThen, newObj, Sem.run]
  · cases hs
/-- The entries that weren't shown yet. -/
def Itr.left (q : Itr) (es : List MEnt) : List MEnt := es.filter fun e => !q.seen.contains e.born
def Itr.ok (q : Itr) (es : List MEnt) : Bool := !(!q.seen.isEmpty && !es.isEmpty && es.all fun e => decide (q.last ≤ e.born))
def Itr.old (q : Itr) (es : List MEnt) : List MEnt := (q.left es).filter fun e => decide (e.born < q.since)
/-- The next entry, whichever it is. -/
def nextK (H : Heap) (x : Value) (K : Value → Heap → Prop) : Prop :=
  match x with
  | .pointer (some a) => a.off = 0 ∧ a.spot = none ∧ ∃ q, H.iterAt a.block = some q ∧ match q.om with
    | none => K (.tuple #[.bool false]) H
    | some m => ∃ p, H.mapAt m = some p ∧ q.ok p.2 = true ∧ (q.old p.2 = [] → K (.tuple #[.bool false]) H) ∧
      ∀ e ∈ q.left p.2, K (.tuple #[.bool true, e.key, e.val]) (H.put a.block (icells q.om q.since (q.seen ++ [e.born]) p.1))
  | _ => False
theorem All2.filter {α β : Type} {R : α → β → Prop} {p : α → Bool} {r : β → Bool} (hp : ∀ a b, R a b → p a = r b) : ∀ {l : List α} {m : List β}, All2 R l m → All2 R (l.filter p) (m.filter r)
  | _, _, .nil => .nil
  | _, _, .cons (a := a) (b := b) h hl => by
    simp only [List.filter_cons, hp a b h]
    split
    · exact .cons h (All2.filter hp hl)
    · exact All2.filter hp hl
theorem All2.mem' {α β : Type} {R : α → β → Prop} {l : List α} {m : List β} (h : All2 R l m) {b : β} (hb : b ∈ m) : ∃ a ∈ l, R a b := by
  induction h with
  | nil => cases hb
  | cons hr _ ih =>
    rcases List.mem_cons.1 hb with rfl | hb
    · exact ⟨_, by simp, hr⟩
    · obtain ⟨a, ha, hR⟩ := ih hb; exact ⟨a, by simp [ha], hR⟩
theorem run_mapNext {P : Program} (w : World) {n : Nat} (hn : 0 < n) : ∃ i w1, (w1 = w ∨ w1 = { w with drawn := w.drawn + 1 }) ∧ i < n ∧ (choose (.mapNext n)).run P w = .ok i w1 := by
  by_cases h : n ≤ 1
  · exact ⟨0, w, .inl rfl, hn, by simp [choose, Sem.run, Question.forced, h]⟩
  · refine ⟨w.tape w.drawn (.mapNext n) % n, _, .inr rfl, Nat.mod_lt _ hn, ?_⟩
    simp [choose, Sem.run, Question.forced, h, Question.cut]
theorem next_sound {P : Program} {H : Heap} {ρ : Nat → Nat × Nat} {w : World} (hR : Rep H ρ w) (ty : TypeId) {x x' : Value} (hrx : r3 (H.cx ρ) x x') {K : Value → Heap → Prop} (hk : nextK H x K) :
    ∃ v v' w' H', (Instr.next x' false ty).run P w = .ok v' w' ∧ r3 (H'.cx ρ) v v' ∧ Rep H' ρ w' ∧ H'.base = H.base ∧ H'.next = H.next ∧ K v H' := by
  unfold nextK at hk
  split at hk
  · rename_i a
    obtain ⟨h0, hsp, q, hq, hk⟩ := hk
    obtain ⟨kb, om', hB, hkb, hz, ht, hom, hw⟩ := hR.iterAt hq
    obtain ⟨_, hx'⟩ : _ ∧ x' = .pointer (some ((H.cx ρ).addr a)) := hrx
    have hB' : ¬ a.block < (H.cx ρ).B := hB
    have ha : (H.cx ρ).addr a = ⟨(ρ a.block).1, 0, none⟩ := by simp only [Cx.addr, if_neg hB', h0]; rfl
    rw [ha] at hx'
    subst hx'
    split at hk
    · rename_i hqm
      have hom' : om' = none := by
        rw [hqm] at hom
        have : (Value.map om') = .map none := hom
        cases this; rfl
      rw [hom'] at hw
      refine ⟨.tuple #[.bool false], .tuple #[.bool false], w, H, ?_, ⟨_, rfl, .cons rfl .nil⟩, hR, rfl, rfl, hk⟩
      simp [Instr.next, run_getObj_iter hw, Result.andThen]
    · rename_i m hqm
      obtain ⟨⟨c, es⟩, hm, hok, hover, hone⟩ := hk
      obtain ⟨km, es', hBm, hkm, _, _, hwm, hall⟩ := hR.mapAt hm
      have hom' : om' = some (ρ m).1 := by
        rw [hqm] at hom
        obtain ⟨_, h2⟩ : _ ∧ (Value.map om') = .map (some ((H.cx ρ).mp m)) := hom
        rw [mp_own hBm] at h2
        cases h2; rfl
      have hom2 := hom
      rw [hom'] at hw hom
      obtain ⟨l', rfl⟩ : ∃ l', es' = ⟨l'⟩ := ⟨es'.toList, rfl⟩
      have hborn : ∀ (a : MEnt) (b : MapEntry), mEnt (H.cx ρ) a b → b.born = a.born := fun a b h => h.2.2.1
      have hleft : All2 (mEnt (H.cx ρ)) (q.left es) (l'.filter fun e => !q.seen.contains e.born) := All2.filter (fun a b h => by rw [hborn a b h]) hall
      have hold : All2 (mEnt (H.cx ρ)) (q.old es) ((l'.filter fun e => !q.seen.contains e.born).filter fun e => decide (e.born < q.since)) := All2.filter (fun a b h => by rw [hborn a b h]) hleft
      have hall' : All2 (mEnt (H.cx ρ)) es l' := hall
      have hgood : (!q.seen.isEmpty && !l'.isEmpty && l'.all fun e => decide (q.last ≤ e.born)) = false := by
        have h1 : l'.isEmpty = es.isEmpty := by cases hall' <;> rfl
        have h2 : (l'.all fun e => decide (q.last ≤ e.born)) = es.all fun e => decide (q.last ≤ e.born) := by
          clear hleft hold hwm hok hover hone hm h1 hall
          induction hall' with
          | nil => rfl
          | cons h _ ih => simp only [List.all_cons, hborn _ _ h, ih]
        rw [h1, h2]
        unfold Itr.ok at hok
        rw [Bool.not_eq_true'] at hok
        exact hok
      obtain ⟨left', hleft'⟩ : ∃ left', left' = l'.filter fun e => !q.seen.contains e.born := ⟨_, rfl⟩
      obtain ⟨old', hold'⟩ : ∃ old', old' = left'.filter fun e => decide (e.born < q.since) := ⟨_, rfl⟩
      obtain ⟨new', hnew'⟩ : ∃ new', new' = left'.filter fun e => decide (e.born ≥ q.since) := ⟨_, rfl⟩
      obtain ⟨cand, hcand⟩ : ∃ cand : Array (Option MapEntry), cand = (if old'.isEmpty then #[none] else #[]) ++ (old'.toArray ++ new'.toArray).map some := ⟨_, rfl⟩
      rw [← hleft'] at hleft hold
      rw [← hold'] at hold
      have hpos : 0 < cand.size := by
        rw [hcand]
        cases old' with
        | nil => simp
        | cons a l => simp
      have hgood2 : ¬ ((!q.seen.toArray.isEmpty && !(({ toList := l' } : Array MapEntry)).isEmpty && (({ toList := l' } : Array MapEntry)).all fun e => decide (e.born ≥ q.last)) = true) := by
        rw [show (!q.seen.toArray.isEmpty && !(({ toList := l' } : Array MapEntry)).isEmpty && (({ toList := l' } : Array MapEntry)).all fun e => decide (e.born ≥ q.last)) = (!q.seen.isEmpty && !l'.isEmpty && l'.all fun e => decide (q.last ≤ e.born)) by simp, hgood]
        simp
      have e1 : (({ toList := l' } : Array MapEntry).filter fun e => !q.seen.toArray.contains e.born) = left'.toArray := by rw [hleft']; simp
      have e2 : (left'.toArray.filter fun e => decide (e.born < q.since)) = old'.toArray := by rw [hold']; simp
      have e3 : (left'.toArray.filter fun e => decide (e.born ≥ q.since)) = new'.toArray := by rw [hnew']; simp
      have e4 : old'.toArray.isEmpty = old'.isEmpty := by simp
      obtain ⟨i, w1, hw1, hi, hch⟩ := run_mapNext (P := P) w hpos
      have hR1 : Rep H ρ w1 := by
        rcases hw1 with rfl | rfl
        · exact hR
        · exact hR.drawn
      have hwi : w1.heap[(ρ a.block).1]? = some (.mapIter (some (ρ m).1) q.since q.seen.toArray q.last) := by
        rcases hw1 with rfl | rfl
        · exact hw
        · exact hw
      have hci : cand[i]? = some cand[i] := by simp [hi]
      have hmem : cand[i] ∈ cand.toList := by simp
      have hsh : (cand[i] = none ∧ old' = []) ∨ ∃ e, cand[i] = some e ∧ e ∈ left' := by
        have hcl : cand.toList = (if old'.isEmpty then [none] else []) ++ (old' ++ new').map some := by
          rw [hcand]
          cases old' <;> simp
        rw [hcl] at hmem
        rw [List.mem_append] at hmem
        rcases hmem with h1 | h1
        · cases ho : old' with
          | nil => rw [ho] at h1; simp at h1; exact .inl ⟨h1, rfl⟩
          | cons x l => rw [ho] at h1; simp at h1
        · obtain ⟨e, he, heq⟩ := List.mem_map.1 h1
          refine .inr ⟨e, heq.symm, ?_⟩
          rw [List.mem_append] at he
          rcases he with he | he
          · rw [hold'] at he; exact (List.mem_filter.1 he).1
          · rw [hnew'] at he; exact (List.mem_filter.1 he).1
      rcases hsh with ⟨hcn, ho⟩ | ⟨e, hcn, hel⟩
      · rw [hcn] at hci
        refine ⟨.tuple #[.bool false], .tuple #[.bool false], w1, H, ?_, ⟨_, rfl, .cons rfl .nil⟩, hR1, rfl, rfl, hover ?_⟩
        · simp only [Instr.next, Sem.run_bind, run_getObj_iter hw, MapKept.run_getObj_map hwm, Result.andThen_ok, if_neg hgood2, e1, e2, e3, e4, ← hcand, hch, hci]
          simp
        · rw [ho] at hold
          cases h : q.old es with
          | nil => rfl
          | cons x l => rw [h] at hold; cases hold
      · rw [hcn] at hci
        obtain ⟨e0, he0, hme⟩ := hleft.mem' hel
        refine ⟨.tuple #[.bool true, e0.key, e0.val], .tuple #[.bool true, e.key, e.val], _, H.put a.block (icells q.om q.since (q.seen ++ [e0.born]) c), ?_, ⟨_, rfl, .cons rfl (.cons ?_ (.cons hme.2.2.2 .nil))⟩, hR1.setIter hq hom (q.seen ++ [e0.born]) c, rfl, rfl, hone e0 he0⟩
        · simp only [Instr.next, Sem.run_bind, run_getObj_iter hw, MapKept.run_getObj_map hwm, Result.andThen_ok, if_neg hgood2, e1, e2, e3, e4, ← hcand, hch, hci, run_setObj_iter _ hwi, hme.2.2.1]
          simp
        · rw [hme.2.1]; exact r2_of_r1 (r1_of_r0 (plain0_self hme.1))
  · exact hk.elim

/-- The next entry, where there is but one way. -/
def sNext (H : Heap) (x : Value) : Option (Value × Heap) := match x with
  | .pointer (some a) => if a.off = 0 ∧ a.spot = none then (H.iterAt a.block).bind fun q => match q.om with
      | none => some (.tuple #[.bool false], H)
      | some m => (H.mapAt m).bind fun p => if q.ok p.2 = true then match q.left p.2 with
        | [] => some (.tuple #[.bool false], H)
        | [e] => if e.born < q.since then some (.tuple #[.bool true, e.key, e.val], H.put a.block (icells q.om q.since (q.seen ++ [e.born]) p.1)) else none
        | _ => none
        else none
    else none
  | _ => none
theorem nextK_mono {H : Heap} {x : Value} {K K' : Value → Heap → Prop} (h : nextK H x K) (hk : ∀ v H', K v H' → K' v H') : nextK H x K' := by
  unfold nextK at h ⊢
  split
  · obtain ⟨h0, hs, q, hq, h⟩ := h
    refine ⟨h0, hs, q, hq, ?_⟩
    split
    · rename_i ho
      rw [ho] at h
      exact hk _ _ h
    · rename_i m ho
      rw [ho] at h
      obtain ⟨p, hm, hok, h1, h2⟩ := h
      exact ⟨p, hm, hok, fun h => hk _ _ (h1 h), fun e he => hk _ _ (by rw [ho]; exact h2 e he)⟩
  · rename_i hx
    split at h
    · exact absurd rfl (hx _)
    · exact h.elim
theorem sNext_K {H H' : Heap} {x v : Value} (h : sNext H x = some (v, H')) : nextK H x (fun v1 H1 => v1 = v ∧ H1 = H') := by
  unfold sNext at h
  unfold nextK
  split at h
  · rename_i a
    split at h
    · rename_i h0
      refine ⟨h0.1, h0.2, ?_⟩
      cases hq : H.iterAt a.block with
      | none => simp [hq] at h
      | some q =>
        simp only [hq, Option.bind_some] at h
        refine ⟨q, rfl, ?_⟩
        split at h
        · rename_i ho
          cases h; exact ⟨rfl, rfl⟩
        · rename_i m ho
          rw [ho]
          cases hm : H.mapAt m with
          | none => simp [hm] at h
          | some p =>
            simp only [hm, Option.bind_some] at h
            refine ⟨p, rfl, ?_⟩
            split at h
            · rename_i hok
              refine ⟨hok, ?_, ?_⟩
              · intro hold
                split at h
                · cases h; exact ⟨rfl, rfl⟩
                · rename_i e hl
                  split at h
                  · rename_i hb
                    simp [Itr.old, hl, hb] at hold
                  · cases h
                · cases h
              · intro e he
                split at h
                · rename_i hl; rw [hl] at he; cases he
                · rename_i e1 hl
                  rw [hl] at he
                  simp only [List.mem_singleton] at he
                  subst he
                  split at h
                  · rw [ho] at h; cases h; exact ⟨rfl, rfl⟩
                  · cases h
                · cases h
            · cases h
    · cases h
  · cases h
theorem stp_next {P : Program} {H H' : Heap} {ρ : Nat → Nat × Nat} {w : World} (hR : Rep H ρ w) (ty : TypeId) {x x' v : Value} (hrx : r3 (H.cx ρ) x x') (hs : sNext H x = some (v, H')) : Stp P H ρ w (Instr.next x' false ty) v H' := by
  obtain ⟨v1, v', w', H1, hrun, hr, hR', hb, hn, rfl, rfl⟩ := next_sound hR ty hrx (sNext_K hs)
  exact ⟨ρ, v', w', hrun, hr, hR', le_same H ρ hb (by omega)⟩
/-- The entry that was shown last. -/
def sEntry (H : Heap) (x : Value) : Option Value := match x with
  | .pointer (some a) => if a.off = 0 ∧ a.spot = none then (H.iterAt a.block).bind fun q => match q.om with
      | none => none
      | some m => (H.mapAt m).bind fun p => if p.1 = q.last then (q.seen.getLast?).bind fun s => (p.2.find? fun e => e.born == s).map fun e => .tuple #[e.key, e.val] else none
    else none
  | _ => none
theorem find_born {c : Cx} {s : Nat} : ∀ {es : List MEnt} {es' : List MapEntry}, All2 (mEnt c) es es' → ∀ {e : MEnt}, es.find? (fun e => e.born == s) = some e → ∃ e', es'.find? (fun e => e.born == s) = some e' ∧ mEnt c e e'
  | _, _, .nil, e, h => by cases h
  | _, _, .cons (a := a) (b := b) hab hl, e, h => by
    simp only [List.find?_cons] at h ⊢
    rw [hab.2.2.1]
    cases hx : (a.born == s) with
    | true => rw [hx] at h; cases h; exact ⟨b, rfl, hab⟩
    | false => rw [hx] at h; exact find_born hl h
theorem stp_entry {P : Program} {H : Heap} {ρ : Nat → Nat × Nat} {w : World} (hR : Rep H ρ w) {x x' v : Value} (hrx : r3 (H.cx ρ) x x') (hs : sEntry H x = some v) : Stp P H ρ w (Instr.entry x') v H := by
  unfold sEntry at hs
  split at hs
  · rename_i a
    split at hs
    · rename_i h0
      obtain ⟨h0, hsp⟩ := h0
      cases hq : H.iterAt a.block with
      | none => simp [hq] at hs
      | some q =>
        simp only [hq, Option.bind_some] at hs
        obtain ⟨kb, om', hB, hkb, hz, ht, hom, hw⟩ := hR.iterAt hq
        obtain ⟨_, hx'⟩ : _ ∧ x' = .pointer (some ((H.cx ρ).addr a)) := hrx
        have hB' : ¬ a.block < (H.cx ρ).B := hB
        have ha : (H.cx ρ).addr a = ⟨(ρ a.block).1, 0, none⟩ := by simp only [Cx.addr, if_neg hB', h0]; rfl
        rw [ha] at hx'
        subst hx'
        split at hs
        · cases hs
        · rename_i m hqm
          cases hm : H.mapAt m with
          | none => simp [hm] at hs
          | some p =>
            obtain ⟨c, es⟩ := p
            simp only [hm, Option.bind_some] at hs
            obtain ⟨km, es', hBm, hkm, _, _, hwm, hall⟩ := hR.mapAt hm
            have hom' : om' = some (ρ m).1 := by
              rw [hqm] at hom
              obtain ⟨_, h2⟩ : _ ∧ (Value.map om') = .map (some ((H.cx ρ).mp m)) := hom
              rw [mp_own hBm] at h2
              cases h2; rfl
            rw [hom'] at hw
            split at hs
            · rename_i hc
              cases hsl : q.seen.getLast? with
              | none => simp [hsl] at hs
              | some s =>
                simp only [hsl, Option.bind_some] at hs
                cases hf : es.find? (fun e => e.born == s) with
                | none => simp [hf] at hs
                | some e =>
                  simp only [hf, Option.map_some, Option.some.injEq] at hs
                  subst hs
                  obtain ⟨e', hf', hme⟩ := find_born hall hf
                  have hf2 : es'.find? (fun e => e.born == s) = some e' := by
                    obtain ⟨l'⟩ := es'
                    simpa using hf'
                  have hbk : q.seen.toArray.back? = some s := by simp [hsl]
                  refine Stp.same (v' := .tuple #[e'.key, e'.val]) hR ?_ ⟨_, rfl, .cons ?_ (.cons hme.2.2.2 .nil)⟩
                  · simp only [Instr.entry, Sem.run_bind, run_getObj_iter hw, MapKept.run_getObj_map hwm, Result.andThen_ok, hbk, hf2, hc]
                    simp
                  · rw [hme.2.1]; exact r2_of_r1 (r1_of_r0 (plain0_self hme.1))
            · cases hs
    · cases hs
  · cases hs
end Go.Ot
