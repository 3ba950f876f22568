/-
  Part Ia: maps.
-/
import Derived.Test.YthclcdboialfnaaOtI
import Derived.MapKept
import Derived.Carry
set_option linter.unusedVariables false
set_option linter.unusedSimpArgs false
namespace Go.Ot
open Go.RowKit

theorem r3_plain3_eq' {c : Cx} {v v' : Value} (h : plain0 v = true) (hr : r3 c v v') : v' = v := by
  cases v <;> simp [plain0] at h <;> first | exact hr | (rename_i a; cases a <;> simp [plain0] at h; exact hr) | (rename_i a n k; cases a <;> simp [plain0] at h; exact hr)
def keyOk : TypeDesc → Value → Bool
  | .bool, .bool _ => true
  | .int k, .int k' _ => k' == k
  | .string, .string _ => true
  | _, _ => false
theorem keyOk_is {d : TypeDesc} {k : Value} (h : keyOk d k = true) : MapKept.IsKey d k := by
  cases d <;> cases k <;> simp_all [keyOk, MapKept.IsKey]
theorem keyOk_plain {d : TypeDesc} {k : Value} (h : keyOk d k = true) : plain0 k = true := by
  cases d <;> cases k <;> simp_all [keyOk, plain0]
theorem sameNow_eq {d : TypeDesc} {k q : Value} (hk : keyOk d k = true) (h : Instr.sameNow d k q = some true) : q = k := by
  cases d <;> cases k <;> cases q <;> simp_all [keyOk, Instr.sameNow, MapKept.bytes_beq]
def mdecE : List Value → Option (List MEnt)
  | [] => some []
  | .tuple a :: es => match a.toList with
    | [k, v, .int .i64 b] => (mdecE es).map (⟨k, v, b.toNat⟩ :: ·)
    | _ => none
  | _ :: _ => none
def mdec : List Value → Option (Nat × List MEnt)
  | .int .i64 c :: es => (mdecE es).map (c.toNat, ·)
  | _ => none
theorem mdecE_map : ∀ es : List MEnt, mdecE (es.map (fun e => .tuple #[e.key, e.val, .int .i64 e.born])) = some es
  | [] => rfl
  | e :: es => by simp [mdecE, mdecE_map es]
theorem mdec_mcells (c : Nat) (es : List MEnt) : mdec (mcells c es) = some (c, es) := by simp [mdec, mcells, mdecE_map]
/-- The map of a number. -/
def Heap.mapAt (H : Heap) (m : Nat) : Option (Nat × List MEnt) := if m < H.B then none else (H.blk m).bind fun k => if k.sz = 0 ∧ k.ty = 0 then mdec k.cells else none
theorem mapAt_of {H : Heap} {m c : Nat} {es : List MEnt} (hB : ¬ m < H.B) (hk : H.blk m = some ⟨0, 0, mcells c es⟩) : H.mapAt m = some (c, es) := by
  simp [Heap.mapAt, hB, hk, mdec_mcells]
theorem Rep.mapAt {H : Heap} {ρ : Nat → Nat × Nat} {w : World} (h : Rep H ρ w) {m c : Nat} {es : List MEnt} (hm : H.mapAt m = some (c, es)) :
    ∃ k es', ¬ m < H.B ∧ H.blk m = some k ∧ k.sz = 0 ∧ k.ty = 0 ∧ w.heap[(ρ m).1]? = some (.map es' c) ∧ All2 (mEnt (H.cx ρ)) es es'.toList := by
  unfold Heap.mapAt at hm
  split at hm
  · cases hm
  · rename_i hB
    cases hk : H.blk m with
    | none => simp [hk] at hm
    | some k =>
      simp only [hk, Option.bind_some] at hm
      split at hm
      · rename_i h0
        obtain ⟨_, _, h3⟩ := h.oth _ _ hk h0.1
        rcases h3 with ⟨_, clock, fs, fs', e1, e2, e3⟩ | ⟨e, _⟩
        · rw [e1, mdec_mcells] at hm
          cases hm
          exact ⟨k, fs', hB, rfl, h0.1, h0.2, e2, e3⟩
        · rw [h0.2] at e; cases e
      · cases hm
theorem mp_own {H : Heap} {ρ : Nat → Nat × Nat} {m : Nat} (h : ¬ m < H.B) : (H.cx ρ).mp m = (ρ m).1 := by
  have : ¬ m < (H.cx ρ).B := h
  simp [Cx.mp, this]; rfl
theorem Rep.setMap {H : Heap} {ρ : Nat → Nat × Nat} {w : World} (h : Rep H ρ w) {m c : Nat} {es : List MEnt} (hm : H.mapAt m = some (c, es)) (c2 : Nat) {es2 : List MEnt} {es2' : Array MapEntry} (hr : All2 (mEnt (H.cx ρ)) es2 es2'.toList) :
    Rep (H.put m (mcells c2 es2)) ρ { w with heap := w.heap.setIfInBounds (ρ m).1 (.map es2' c2) } := by
  obtain ⟨k, es', hB, hk, h0, ht, hw, _⟩ := h.mapAt hm
  have hfar := h.far hk
  have hlt := h.lt hk
  have hset := MapKept.heap_set (o' := .map es2' c2) hw
  refine h.putRow hk _ ?_ ?_ ?_
  · refine h.below.trans ⟨rfl, rfl, rfl, by simp, fun g hg => ?_⟩
    exact hset.2 g (by omega)
  · rw [if_neg (by omega)]
    exact ⟨hfar, h0, .inl ⟨ht, c2, es2, es2', rfl, hset.1, hr⟩⟩
  · intro g hg _
    exact hset.2 g hg
def mfind (d : TypeDesc) (k : Value) : List MEnt → Nat → Option (Option (Nat × Value))
  | [], _ => some none
  | e :: es, i => match Instr.sameNow d k e.key with
    | some true => some (some (i, e.val))
    | some false => mfind d k es (i + 1)
    | none => none
theorem find_rel {c : Cx} {d : TypeDesc} {k : Value} : ∀ {es : List MEnt} {es' : List MapEntry}, All2 (mEnt c) es es' → ∀ {i : Nat} {r : Option (Nat × Value)}, mfind d k es i = some r →
    (r = none ∧ Instr.findNow d k es' i = some none) ∨ ∃ j v v' e e', r = some (i + j, v) ∧ Instr.findNow d k es' i = some (some (i + j, v')) ∧ r2 c v v' ∧ es[j]? = some e ∧ es'[j]? = some e' ∧ mEnt c e e' ∧ Instr.sameNow d k e.key = some true
  | _, _, .nil, i, r, h => by cases h; exact .inl ⟨rfl, rfl⟩
  | _, _, .cons (a := e) (b := e') he hl, i, r, h => by
    simp only [mfind] at h
    obtain ⟨h1, h2, h3, h4⟩ := he
    split at h
    · rename_i hs
      cases h
      exact .inr ⟨0, e.val, e'.val, e, e', rfl, by simp [Instr.findNow, h2, hs], h4, rfl, rfl, ⟨h1, h2, h3, h4⟩, hs⟩
    · rename_i hs
      rcases find_rel hl h with ⟨q1, q2⟩ | ⟨j, v, v', f, f', q1, q2, q3, q4, q5, q6, q7⟩
      · exact .inl ⟨q1, by simp [Instr.findNow, h2, hs, q2]⟩
      · exact .inr ⟨j + 1, v, v', f, f', by rw [q1]; congr 2; omega, by simp [Instr.findNow, h2, hs, q2]; omega, q3, by simpa using q4, by simpa using q5, q6, q7⟩
    · cases h

/-! ### the operations -/
theorem stp_makeMap {P : Program} {H : Heap} {ρ : Nat → Nat × Nat} {w : World} (hR : Rep H ρ w) (t : TypeId) : Stp P H ρ w (Instr.makeMap t none) (.map (some H.next)) (H.new 0 0 (mcells 0 [])) := by
  have hN : H.N ≤ w.heap.size := hR.below.size
  have hadd := hR.add 0 0 (mcells 0 []) w.heap.size 0 (hR.below.alloc hN _) (w' := w.alloc (.map #[] 0)) (by
    rw [if_neg (by omega)]
    exact ⟨hN, rfl, .inl ⟨rfl, 0, [], #[], rfl, heap_alloc_new _ _, .nil⟩⟩) (by
    intro b k hk
    have := hR.lt hk
    exact ⟨by omega, heap_alloc_old _ _ this⟩)
  refine ⟨_, _, _, run_makeMap t w, ?_, hadd, le_new H ρ _ _ _ _⟩
  have hn : ¬ H.next < H.B := by have := hR.next; omega
  refine ⟨.inr (Nat.lt_succ_self _), ?_⟩
  have h1 : ¬ H.next < ((H.new 0 0 (mcells 0 [])).cx (up ρ H.next (w.heap.size, 0))).B := hn
  simp only [Cx.mp, if_neg h1]
  show _ = Value.map (some (up ρ H.next (w.heap.size, 0) H.next).1)
  rw [up_self]
def mFin (comma : Bool) (v : Value) (ok : Bool) : Value := if comma then .tuple #[v, .bool ok] else v
/-- Looking up. -/
def sLookup (H : Heap) (d : TypeDesc) (z : Value) (comma : Bool) (x k : Value) : Option Value :=
  if keyOk d k then match x with
    | .map none => some (mFin comma z false)
    | .map (some m) => (H.mapAt m).bind fun p => (mfind d k p.2 0).map fun r => match r with | some q => mFin comma q.2 true | none => mFin comma z false
    | _ => none
  else none
theorem r3_mFin {c : Cx} {v v' : Value} (comma b : Bool) (h : r2 c v v') : r3 c (mFin comma v b) (mFin comma v' b) := by
  unfold mFin
  cases comma
  · simpa using r3_of_r2 h
  · exact ⟨_, rfl, .cons h (.cons rfl .nil)⟩
theorem stp_lookup {P : Program} {H : Heap} {ρ : Nat → Nat × Nat} {w : World} (hR : Rep H ρ w) {xT kt et : TypeId} {d : TypeDesc} {ie : TypeInfo} {z : Value} (hx : P.underlying xT = some (.map kt et)) (hkt : P.underlying kt = some d)
    (hi : P.info? et = some ie) (hz : ie.zero = some z) (hp : plain2 z = true) {x x' k k' v : Value} {comma : Bool} (hrx : r3 (H.cx ρ) x x') (hrk : r3 (H.cx ρ) k k') (hs : sLookup H d z comma x k = some v) :
    Stp P H ρ w (Instr.lookup xT x' k' comma) v H := by
  unfold sLookup at hs
  split at hs
  · rename_i hko
    have hk' : k' = k := by
      have hp0 := keyOk_plain hko
      have := r3_plain3_eq' hp0 hrk
      exact this
    subst hk'
    have hkey := keyOk_is hko
    split at hs
    · cases hs
      have hx' : x' = .map none := hrx
      subst hx'
      refine Stp.same (v' := mFin comma z false) hR ?_ (r3_mFin comma false (plain2_self hp))
      have hf := MapKept.run_findKey (P := P) (w := w) (l := []) hkt (a := none) (k := k') rfl
      simp [Instr.lookup, run_underlying hx, MapKept.run_checkKey hkt hkey, hf, zeroValue, typeInfo, hi, hz, mFin, Result.andThen]
    · rename_i m
      cases hm : H.mapAt m with
      | none => simp [hm] at hs
      | some p =>
        obtain ⟨c, es⟩ := p
        simp only [hm, Option.bind_some] at hs
        obtain ⟨kb, es', hB, hk, h0, ht, hw, hall⟩ := hR.mapAt hm
        obtain ⟨_, hx'⟩ : _ ∧ x' = .map (some ((H.cx ρ).mp m)) := hrx
        rw [mp_own hB] at hx'
        subst hx'
        cases hmf : mfind d k' es 0 with
        | none => simp [hmf] at hs
        | some r =>
          rcases find_rel hall hmf with ⟨rfl, hf⟩ | ⟨j, u, u', e, e', rfl, hf, hu, _, _, _, _⟩
          · simp only [hmf, Option.map_some, Option.some.injEq] at hs
            subst hs
            refine Stp.same (v' := mFin comma z false) hR ?_ (r3_mFin comma false (plain2_self hp))
            simp [Instr.lookup, run_underlying hx, MapKept.run_getObj_map hw, MapKept.run_checkKey hkt hkey, MapKept.run_findKey hkt hf, zeroValue, typeInfo, hi, hz, mFin, Result.andThen]
          · simp only [hmf, Option.map_some, Option.some.injEq] at hs
            subst hs
            refine Stp.same (v' := mFin comma u' true) hR ?_ (r3_mFin comma true hu)
            simp [Instr.lookup, run_underlying hx, MapKept.run_getObj_map hw, MapKept.run_checkKey hkt hkey, MapKept.run_findKey hkt hf, mFin, Result.andThen]
    · cases hs
  · cases hs
/-- An entry is set. -/
def sMapUpdate (H : Heap) (d : TypeDesc) (x k v : Value) : Option Heap :=
  if keyOk d k = true ∧ notTup v = true then match x with
    | .map (some m) => (H.mapAt m).bind fun p => (mfind d k p.2 0).map fun r => match r with
      | some q => H.put m (mcells p.1 (p.2.modify q.1 fun e => { e with key := k, val := v }))
      | none => H.put m (mcells (p.1 + 1) (p.2 ++ [⟨k, v, p.1⟩]))
    | _ => none
  else none
theorem All2.modify {α β : Type} {R : α → β → Prop} {f : α → α} {g : β → β} : ∀ {l : List α} {m : List β} (i : Nat), All2 R l m → (∀ a b, l[i]? = some a → m[i]? = some b → R a b → R (f a) (g b)) → All2 R (l.modify i f) (m.modify i g)
  | _, _, i, .nil, _ => by simp; exact .nil
  | _, _, 0, .cons h hl, hf => .cons (hf _ _ rfl rfl h) hl
  | _, _, i + 1, .cons h hl, hf => by
    simp only [List.modify_succ_cons]
    exact .cons h (All2.modify i hl (fun a b ha hb => hf a b (by simpa using ha) (by simpa using hb)))
theorem stp_mapUpdate {P : Program} {H H' : Heap} {ρ : Nat → Nat × Nat} {w : World} (hR : Rep H ρ w) {xT kt et : TypeId} {d : TypeDesc} (hx : P.underlying xT = some (.map kt et)) (hkt : P.underlying kt = some d)
    {x x' k k' v v' : Value} (hrx : r3 (H.cx ρ) x x') (hrk : r3 (H.cx ρ) k k') (hrv : r3 (H.cx ρ) v v') (hs : sMapUpdate H d x k v = some H') :
    ∃ w', (Instr.mapUpdate xT x' k' v').run P w = .ok () w' ∧ Rep H' ρ w' ∧ H'.base = H.base ∧ H'.next = H.next := by
  unfold sMapUpdate at hs
  split at hs
  · rename_i hc
    obtain ⟨hko, hnt⟩ := hc
    have hv2 := r2_of_r3 (notTup_ne hnt) hrv
    have hk' : k' = k := r3_plain3_eq' (keyOk_plain hko) hrk
    subst hk'
    have hkey := keyOk_is hko
    split at hs
    · rename_i m
      cases hm : H.mapAt m with
      | none => simp [hm] at hs
      | some p =>
        obtain ⟨c, es⟩ := p
        simp only [hm, Option.bind_some] at hs
        obtain ⟨kb, es', hB, hk, h0, ht, hw, hall⟩ := hR.mapAt hm
        obtain ⟨_, hx'⟩ : _ ∧ x' = .map (some ((H.cx ρ).mp m)) := hrx
        rw [mp_own hB] at hx'
        subst hx'
        cases hmf : mfind d k' es 0 with
        | none => simp [hmf] at hs
        | some r =>
          rcases find_rel hall hmf with ⟨rfl, hf⟩ | ⟨j, u, u', e, e', rfl, hf, hu, hej, hej', hme, hsame⟩
          · simp only [hmf, Option.map_some, Option.some.injEq] at hs
            subst hs
            have hall2 : All2 (mEnt (H.cx ρ)) (es ++ [⟨k', v, c⟩]) (es'.push { key := k', val := v', born := c }).toList := by
              rw [Array.toList_push]
              exact hall.append (.cons ⟨keyOk_plain hko, rfl, rfl, hv2⟩ .nil)
            refine ⟨_, ?_, hR.setMap hm (c + 1) hall2, rfl, rfl⟩
            simp [Instr.mapUpdate, run_underlying hx, MapKept.run_getObj_map hw, MapKept.run_checkKey hkt hkey, MapKept.run_findKey hkt hf, MapKept.run_setObj_map _ hw, Result.andThen]
          · simp only [hmf, Option.map_some, Option.some.injEq] at hs
            subst hs
            simp only [Nat.zero_add] at hf ⊢
            have hkk : e.key = k' := sameNow_eq hko hsame
            have hj : es'[j]? = some e' := by simpa using hej'
            have hkk' : e'.key = k' := hme.2.1.trans hkk
            have hall2 : All2 (mEnt (H.cx ρ)) (es.modify j fun e => { e with key := k', val := v }) (es'.modify j fun e => { e with key := k', val := v' }).toList := by
              rw [Array.toList_modify]
              refine All2.modify j hall (fun a b ha hb hab => ⟨keyOk_plain hko, rfl, hab.2.2.1, hv2⟩)
            refine ⟨_, ?_, hR.setMap hm c hall2, rfl, rfl⟩
            simp [Instr.mapUpdate, run_underlying hx, MapKept.run_getObj_map hw, MapKept.run_checkKey hkt hkey, MapKept.run_findKey hkt hf, hj, hkk', MapKept.run_keyThatStays hkey, MapKept.run_setObj_map _ hw, Result.andThen]
    · cases hs
  · cases hs
/-- An entry is looked up, to be set. -/
def sMapEntry (H : Heap) (d : TypeDesc) (z : Value) (x k : Value) : Option (Value × Heap) :=
  if keyOk d k then match x with
    | .map (some m) => (H.mapAt m).bind fun p => (mfind d k p.2 0).bind fun r => match r with
      | some q => (p.2[q.1]?).map fun e => (.tuple #[q.2, .int .i64 e.born], H.put m (mcells p.1 (p.2.modify q.1 fun e => { e with key := k })))
      | none => some (.tuple #[z, .int .i64 p.1], H.put m (mcells (p.1 + 1) (p.2 ++ [⟨k, z, p.1⟩])))
    | _ => none
  else none
theorem stp_mapEntry {P : Program} {H H' : Heap} {ρ : Nat → Nat × Nat} {w : World} (hR : Rep H ρ w) {xT kt et : TypeId} {d : TypeDesc} {ie : TypeInfo} {z : Value} (hx : P.underlying xT = some (.map kt et)) (hkt : P.underlying kt = some d)
    (hi : P.info? et = some ie) (hz : ie.zero = some z) (hp : plain2 z = true) {x x' k k' v : Value} (hrx : r3 (H.cx ρ) x x') (hrk : r3 (H.cx ρ) k k') (hs : sMapEntry H d z x k = some (v, H')) :
    Stp P H ρ w (Instr.mapEntry xT x' k') v H' := by
  unfold sMapEntry at hs
  split at hs
  · rename_i hko
    have hk' : k' = k := r3_plain3_eq' (keyOk_plain hko) hrk
    subst hk'
    have hkey := keyOk_is hko
    split at hs
    · rename_i m
      cases hm : H.mapAt m with
      | none => simp [hm] at hs
      | some p =>
        obtain ⟨c, es⟩ := p
        simp only [hm, Option.bind_some] at hs
        obtain ⟨kb, es', hB, hk, h0, ht, hw, hall⟩ := hR.mapAt hm
        obtain ⟨_, hx'⟩ : _ ∧ x' = .map (some ((H.cx ρ).mp m)) := hrx
        rw [mp_own hB] at hx'
        subst hx'
        cases hmf : mfind d k' es 0 with
        | none => simp [hmf] at hs
        | some r =>
          rcases find_rel hall hmf with ⟨rfl, hf⟩ | ⟨j, u, u', e, e', rfl, hf, hu, hej, hej', hme, hsame⟩
          · simp only [hmf, Option.bind_some, Option.some.injEq, Prod.mk.injEq] at hs
            obtain ⟨rfl, rfl⟩ := hs
            have hall2 : All2 (mEnt (H.cx ρ)) (es ++ [⟨k', z, c⟩]) (es'.push { key := k', val := z, born := c }).toList := by
              rw [Array.toList_push]
              exact hall.append (.cons ⟨keyOk_plain hko, rfl, rfl, plain2_self hp⟩ .nil)
            refine ⟨ρ, .tuple #[z, .int .i64 c], _, ?_, ⟨_, rfl, .cons (plain2_self hp) (.cons rfl .nil)⟩, hR.setMap hm (c + 1) hall2, le_same H ρ rfl (Nat.le_refl _)⟩
            simp [Instr.mapEntry, run_underlying hx, MapKept.run_getObj_map hw, MapKept.run_checkKey hkt hkey, MapKept.run_findKey hkt hf, MapKept.run_setObj_map _ hw, zeroValue, typeInfo, hi, hz, goInt, Result.andThen]
          · simp only [Nat.zero_add] at hf
            simp only [hmf, Option.bind_some, Nat.zero_add, hej, Option.map_some, Option.some.injEq, Prod.mk.injEq] at hs
            obtain ⟨rfl, rfl⟩ := hs
            have hkk : e.key = k' := sameNow_eq hko hsame
            have hj : es'[j]? = some e' := by simpa using hej'
            have hkk' : e'.key = k' := hme.2.1.trans hkk
            have hall2 : All2 (mEnt (H.cx ρ)) (es.modify j fun e => { e with key := k' }) (es'.modify j fun e => { e with key := k' }).toList := by
              rw [Array.toList_modify]
              refine All2.modify j hall (fun a b ha hb hab => ⟨keyOk_plain hko, rfl, hab.2.2.1, hab.2.2.2⟩)
            refine ⟨ρ, .tuple #[u', .int .i64 e.born], _, ?_, ⟨_, rfl, .cons hu (.cons rfl .nil)⟩, hR.setMap hm c hall2, le_same H ρ rfl (Nat.le_refl _)⟩
            simp [Instr.mapEntry, run_underlying hx, MapKept.run_getObj_map hw, MapKept.run_checkKey hkt hkey, MapKept.run_findKey hkt hf, hj, hkk', MapKept.run_keyThatStays hkey, MapKept.run_setObj_map _ hw, goInt, hme.2.2.1, Result.andThen]
    · cases hs
  · cases hs
def sEntryStore (H : Heap) (x s v : Value) : Option Heap :=
  if notTup v = true then match x, s with
    | .map (some m), .int _ b => (H.mapAt m).bind fun p => (p.2.findIdx? (fun e => (e.born : Int) == b)).map fun i => H.put m (mcells p.1 (p.2.modify i fun e => { e with val := v }))
    | _, _ => none
  else none
theorem findIdx_rel {c : Cx} {b : Int} : ∀ {es : List MEnt} {es' : List MapEntry}, All2 (mEnt c) es es' → es'.findIdx? (fun e => (e.born : Int) == b) = es.findIdx? (fun e => (e.born : Int) == b)
  | _, _, .nil => rfl
  | _, _, .cons (a := e) (b := e') he hl => by
    simp only [List.findIdx?_cons, he.2.2.1, findIdx_rel hl]
theorem stp_entryStore {P : Program} {H H' : Heap} {ρ : Nat → Nat × Nat} {w : World} (hR : Rep H ρ w) (xT : TypeId)
    {x x' k k' v v' : Value} (hrx : r3 (H.cx ρ) x x') (hrk : r3 (H.cx ρ) k k') (hrv : r3 (H.cx ρ) v v') (hs : sEntryStore H x k v = some H') :
    ∃ w', (Instr.entryStore xT x' k' v').run P w = .ok () w' ∧ Rep H' ρ w' ∧ H'.base = H.base ∧ H'.next = H.next := by
  unfold sEntryStore at hs
  split at hs
  · rename_i hnt
    have hv2 := r2_of_r3 (notTup_ne hnt) hrv
    split at hs
    · rename_i m kk b
      have hk' : k' = .int kk b := hrk
      subst hk'
      cases hm : H.mapAt m with
      | none => simp [hm] at hs
      | some p =>
        obtain ⟨c, es⟩ := p
        simp only [hm, Option.bind_some] at hs
        obtain ⟨kb, es', hB, hk, h0, ht, hw, hall⟩ := hR.mapAt hm
        obtain ⟨_, hx'⟩ : _ ∧ x' = .map (some ((H.cx ρ).mp m)) := hrx
        rw [mp_own hB] at hx'
        subst hx'
        cases hfi : es.findIdx? (fun e => (e.born : Int) == b) with
        | none => simp [hfi] at hs
        | some i =>
          simp only [hfi, Option.map_some, Option.some.injEq] at hs
          subst hs
          have hfi' : es'.findIdx? (fun e => (e.born : Int) == b) = some i := by
            cases es' with | mk l => rw [List.findIdx?_toArray, findIdx_rel hall]; exact hfi
          have hall2 : All2 (mEnt (H.cx ρ)) (es.modify i fun e => { e with val := v }) (es'.modify i fun e => { e with val := v' }).toList := by
            rw [Array.toList_modify]
            refine All2.modify i hall (fun a b ha hb hab => ⟨hab.1, hab.2.1, hab.2.2.1, hv2⟩)
          refine ⟨_, ?_, hR.setMap hm c hall2, rfl, rfl⟩
          simp [Instr.entryStore, MapKept.run_getObj_map hw, asInt, asIntOf, hfi', MapKept.run_setObj_map _ hw, Result.andThen]
    · cases hs
  · cases hs
/-- An entry goes. -/
def sDelete (H : Heap) (d : TypeDesc) (x k : Value) : Option Heap :=
  if keyOk d k then match x with
    | .map none => some H
    | .map (some m) => (H.mapAt m).bind fun p => (mfind d k p.2 0).map fun r => match r with
      | some q => H.put m (mcells p.1 (p.2.eraseIdx q.1))
      | none => H.put m (mcells p.1 p.2)
    | _ => none
  else none
theorem All2.eraseIdx {α β : Type} {R : α → β → Prop} : ∀ {l : List α} {m : List β} (i : Nat), All2 R l m → All2 R (l.eraseIdx i) (m.eraseIdx i)
  | _, _, i, .nil => by simp; exact .nil
  | _, _, 0, .cons h hl => hl
  | _, _, i + 1, .cons h hl => .cons h (All2.eraseIdx i hl)
theorem stp_delete {P : Program} {H H' : Heap} {ρ : Nat → Nat × Nat} {w : World} (hR : Rep H ρ w) {xT kt et t2 ty : TypeId} {d : TypeDesc} (hx : P.underlying xT = some (.map kt et)) (hkt : P.underlying kt = some d)
    {x x' k k' : Value} (hrx : r3 (H.cx ρ) x x') (hrk : r3 (H.cx ρ) k k') (hs : sDelete H d x k = some H') :
    Stp P H ρ w (Builtin.delete_ #[xT, t2] ty #[x', k']) undef H' := by
  unfold sDelete at hs
  split at hs
  · rename_i hko
    have hk' : k' = k := r3_plain3_eq' (keyOk_plain hko) hrk
    subst hk'
    have hkey := keyOk_is hko
    split at hs
    · cases hs
      have hx' : x' = .map none := hrx
      subst hx'
      refine Stp.same (v' := undef) hR ?_ ⟨#[], rfl, .nil⟩
      simp [Builtin.delete_, run_underlying hx, MapKept.run_checkKey hkt hkey, Result.andThen]
      rfl
    · rename_i m
      cases hm : H.mapAt m with
      | none => simp [hm] at hs
      | some p =>
        obtain ⟨c, es⟩ := p
        simp only [hm, Option.bind_some] at hs
        obtain ⟨kb, es', hB, hk, h0, ht, hw, hall⟩ := hR.mapAt hm
        obtain ⟨_, hx'⟩ : _ ∧ x' = .map (some ((H.cx ρ).mp m)) := hrx
        rw [mp_own hB] at hx'
        subst hx'
        cases hmf : mfind d k' es 0 with
        | none => simp [hmf] at hs
        | some r =>
          rcases find_rel hall hmf with ⟨rfl, hf⟩ | ⟨j, u, u', e, e', rfl, hf, hu, hej, hej', hme, hsame⟩
          · simp only [hmf, Option.map_some, Option.some.injEq] at hs
            subst hs
            refine ⟨ρ, undef, _, ?_, ⟨#[], rfl, .nil⟩, hR.setMap hm c hall, le_same H ρ rfl (Nat.le_refl _)⟩
            simp [Builtin.delete_, run_underlying hx, MapKept.run_getObj_map hw, MapKept.run_checkKey hkt hkey, MapKept.run_findKey hkt hf, MapKept.run_setObj_map _ hw, Result.andThen]
            rfl
          · simp only [Nat.zero_add] at hf
            simp only [hmf, Option.map_some, Nat.zero_add, Option.some.injEq] at hs
            subst hs
            have hlt : j < es'.size := by
              have := (List.getElem?_eq_some_iff.1 hej').1
              simpa using this
            have hall2 : All2 (mEnt (H.cx ρ)) (es.eraseIdx j) (es'.eraseIdxIfInBounds j).toList := by
              have : (es'.eraseIdxIfInBounds j).toList = es'.toList.eraseIdx j := by
                unfold Array.eraseIdxIfInBounds
                rw [dif_pos hlt, Array.toList_eraseIdx]
              rw [this]
              exact All2.eraseIdx j hall
            refine ⟨ρ, undef, _, ?_, ⟨#[], rfl, .nil⟩, hR.setMap hm c hall2, le_same H ρ rfl (Nat.le_refl _)⟩
            simp [Builtin.delete_, run_underlying hx, MapKept.run_getObj_map hw, MapKept.run_checkKey hkt hkey, MapKept.run_findKey hkt hf, MapKept.run_setObj_map _ hw, Result.andThen]
            rfl
    · cases hs
  · cases hs
def sLenM (H : Heap) (x : Value) : Option Value :=
  match x with
  | .map none => some (.int .i64 0)
  | .map (some m) => (H.mapAt m).map fun p => .int .i64 (p.2.length : Nat)
  | _ => none
theorem stp_lenM {P : Program} {H : Heap} {ρ : Nat → Nat × Nat} {w : World} (hR : Rep H ρ w) {xT kt et ty : TypeId} (hx : P.underlying xT = some (.map kt et)) {x x' v : Value} (hrx : r3 (H.cx ρ) x x') (hs : sLenM H x = some v) :
    Stp P H ρ w (Builtin.len_ #[xT] ty #[x']) v H := by
  unfold sLenM at hs
  split at hs
  · cases hs
    have hx' : x' = .map none := hrx
    subst hx'
    refine Stp.same (v' := .int .i64 0) hR ?_ rfl
    simp [Builtin.len_, run_underlying hx, goInt, Result.andThen]
  · rename_i m
    cases hm : H.mapAt m with
    | none => simp [hm] at hs
    | some p =>
      obtain ⟨c, es⟩ := p
      simp only [hm, Option.map_some, Option.some.injEq] at hs
      subst hs
      obtain ⟨kb, es', hB, hk, h0, ht, hw, hall⟩ := hR.mapAt hm
      obtain ⟨_, hx'⟩ : _ ∧ x' = .map (some ((H.cx ρ).mp m)) := hrx
      rw [mp_own hB] at hx'
      subst hx'
      have hl : es.length = es'.size := by simpa using hall.length
      refine Stp.same (v' := .int .i64 es.length) hR ?_ rfl
      simp [Builtin.len_, run_underlying hx, MapKept.run_getObj_map hw, goInt, hl, Result.andThen]
  · cases hs
/-- A row is filled with zeros, or a map is made empty. -/
def sClear (H : Heap) (sz : Nat) (z : List Value) (x : Value) : Option Heap :=
  match x with
  | .slice none _ _ => some H
  | .slice (some a) n _ => if n = 0 then some H else Heap.storeN a 0 (zerosA z (n * sz)) H
  | _ => none
theorem zeroCells_eq {z : Value} {n : Nat} (h : 0 < z.cells.size) : (Builtin.zeroCells z.cells n).toList = zerosA z.cells.toList (n * z.cells.size) := zeros_eq h
theorem stp_clear {P : Program} {H H' : Heap} {ρ : Nat → Nat × Nat} {w : World} (hR : Rep H ρ w) {t e ty : TypeId} {i : TypeInfo} {z : Value} (ht : P.underlying t = some (.slice e)) (hi : P.info? e = some i) (hz : i.zero = some z)
    (hzs : z.cells.size = i.size) (hpos : 0 < i.size) (hp : ∀ v ∈ z.cells.toList, plain1 v = true) {x x' : Value} (hx : r3 (H.cx ρ) x x') (hs : sClear H i.size z.cells.toList x = some H') :
    Stp P H ρ w (Builtin.clear_ #[t] ty #[x']) undef H' := by
  unfold sClear at hs
  split at hs
  · rename_i n k
    cases hs
    have hx' : x' = .slice none n k := hx
    subst hx'
    refine Stp.same (v' := undef) hR ?_ ⟨#[], rfl, .nil⟩
    simp [Builtin.clear_, run_underlying ht, Result.andThen]
    rfl
  · rename_i a n k
    obtain ⟨hok, a', cap', rfl, hle, hoff, _, _⟩ : (H.cx ρ).ok a ∧ ∃ a' cap', x' = .slice (some a') n cap' ∧ n ≤ cap' ∧ (0 < n → a' = (H.cx ρ).addr a) ∧ _ ∧ _ := hx
    split at hs
    · rename_i h0
      cases hs
      subst h0
      refine Stp.same (v' := undef) hR ?_ ⟨#[], rfl, .nil⟩
      simp [Builtin.clear_, run_underlying ht, Result.andThen]
      rfl
    · rename_i h0
      have ha := hoff (by omega)
      subst ha
      have hpl : ∀ v ∈ zerosA z.cells.toList (n * i.size), plain1 v = true := zerosA_plain (by simp; omega) hp _
      obtain ⟨w', hrun, hR', hb, hn⟩ := Rep.storeN (P := P) hR hok hs (All2.of_same fun v hv => plain1_self (hpl v hv))
      refine ⟨ρ, undef, w', ?_, ⟨#[], rfl, .nil⟩, hR', le_same H ρ hb (by omega)⟩
      cases n with
      | zero => omega
      | succ n =>
        have e : (Builtin.zeroCells z.cells (n + 1)).toList = zerosA z.cells.toList ((n + 1) * i.size) := by rw [zeroCells_eq (by omega), hzs]
        simp [Builtin.clear_, run_underlying ht, zeroValue, typeInfo, hi, hz, e, hrun, Result.andThen]
        rfl
  · cases hs
/-- What an interface value holds, if it is of such a type. -/
def sAssert (ty : TypeId) (z : Value) (comma : Bool) (x : Value) : Option Value :=
  match x with
  | .nilIface => if comma then some (.tuple #[z, .bool false]) else none
  | .iface t v => if t = ty then some (if comma then .tuple #[v, .bool true] else v) else if comma then some (.tuple #[z, .bool false]) else none
  | _ => none
def notIface (d : TypeDesc) : Bool := match d with | .interface _ => false | _ => true
theorem stp_assert {P : Program} {H : Heap} {ρ : Nat → Nat × Nat} {w : World} (hR : Rep H ρ w) {xT ty : TypeId} {d : TypeDesc} {i : TypeInfo} {z : Value} (hd : P.underlying ty = some d) (hdi : notIface d = true) (hi : P.info? ty = some i) (hz : i.zero = some z) (hp : plain2 z = true)
    {x x' v : Value} {comma : Bool} (hx : r3 (H.cx ρ) x x') (hs : sAssert ty z comma x = some v) : Stp P H ρ w (Instr.typeAssert x' xT ty comma) v H := by
  unfold sAssert at hs
  split at hs
  · have hx' : x' = .nilIface := hx
    subst hx'
    cases comma with
    | false => simp at hs
    | true =>
      simp only [if_true, Option.some.injEq] at hs
      subst hs
      refine Stp.same (v' := .tuple #[z, .bool false]) hR ?_ ⟨_, rfl, .cons (plain2_self hp) (.cons rfl .nil)⟩
      cases d <;> simp_all [Instr.typeAssert, run_underlying hd, zeroValue, typeInfo, Result.andThen, notIface]
  · rename_i t u
    obtain ⟨u', hx', hu⟩ : ∃ u', x' = .iface t u' ∧ r0i (H.cx ρ) u u' := hx
    subst hx'
    split at hs
    · rename_i ht
      subst ht
      cases comma with
      | false =>
        simp only [Bool.false_eq_true, if_false, Option.some.injEq] at hs
        subst hs
        refine Stp.same (v' := u') hR ?_ (r3_of_r0i hu)
        cases d <;> simp_all [Instr.typeAssert, run_underlying hd, Result.andThen, notIface]
      | true =>
        simp only [if_true, Option.some.injEq] at hs
        subst hs
        refine Stp.same (v' := .tuple #[u', .bool true]) hR ?_ ⟨_, rfl, .cons (r2_of_r0i hu) (.cons rfl .nil)⟩
        cases d <;> simp_all [Instr.typeAssert, run_underlying hd, Result.andThen, notIface]
    · rename_i ht
      cases comma with
      | false => simp at hs
      | true =>
        simp only [if_true, Option.some.injEq] at hs
        subst hs
        refine Stp.same (v' := .tuple #[z, .bool false]) hR ?_ ⟨_, rfl, .cons (plain2_self hp) (.cons rfl .nil)⟩
        cases d <;> simp_all [Instr.typeAssert, run_underlying hd, zeroValue, typeInfo, Result.andThen, notIface]
  · cases hs
/-- How a method's receiver comes of an interface's value: it is it, or it is what it points to. -/
inductive RMode where
  | same
  | load (agg : Bool) (n : Nat)
def recvOf (H : Heap) : RMode → Value → Option Value
  | .same, u => some u
  | .load b n, u => match u with
    | .pointer (some a) => sLoad H b n (.pointer (some a))
    | _ => none
end Go.Ot
