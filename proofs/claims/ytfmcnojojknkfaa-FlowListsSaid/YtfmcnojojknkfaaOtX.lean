/-
  Part X: from a contract to the given statement of a law.
-/
import Derived.Test.YtfmcnojojknkfaaOtW
import Derived.ProofKit
import Derived.SizedLaws
import Derived.OpenShut
import Derived.Carry
import Derived.KernelRfl
set_option linter.unusedVariables false
set_option linter.unusedSimpArgs false
namespace Go.Ot
open Go.RowKit Go.ChangeShapes Go.WideShapes Go.ChangeAt

/-- The heap at a call from outside: all that is there came in. -/
def H0 (W : World) : Heap := { base := ⟨W, W.heap.size⟩, next := W.heap.size, blk := fun _ => none }
theorem H0_rep (W : World) : Rep (H0 W) (fun _ => (0, 0)) W :=
  { below := Below.refl _ _, lim := Nat.le_refl _, next := Nat.le_refl _, live := fun b k h => (by cases h), row := fun b k h => (by cases h), oth := fun b k h => (by cases h), inj := fun b b' k k' h _ _ => (by cases h) }
theorem H0_wf (W : World) : (H0 W).WF := (H0_rep W).wf
theorem calls_of_T {P : Program} {f : FuncId} {abs : List Value} {args : List Value} {W : World} {b : Bool} {H' : Heap} (hT : T P f abs (H0 W) (.bool b) H')
    (hrel : All2 (r3 ((H0 W).cx (fun _ => (0, 0)))) abs args) : Calls P f args.toArray W fun e w' => e = .returned (.bool b) ∧ Below W.heap.size W w' := by
  refine (hT.2.2.2 _ W args (H0_rep W) hrel).mono ?_
  rintro e w' ⟨ρ', v', rfl, hle, hr, hR⟩
  have hv : v' = .bool b := hr
  subst hv
  refine ⟨rfl, ?_⟩
  have hb := hR.below
  have e1 : H'.base = ⟨W, W.heap.size⟩ := hT.1
  have e2 : H'.N = W.heap.size := by unfold Heap.N; rw [e1]
  rw [e1, e2] at hb
  exact hb

section
variable {H : Type} {enc : TypeId × Value → H} {P : Program} {W W' : World}
theorem trodAll_len {b : Nat} {sp : Nat → Bool} {hd : Bool} : ∀ {ts : List TypeId} {vs : List Value} {ds : List (DataW H)} {ps : List MemPlace}, DataW.TrodAll enc P W b sp hd ts vs ds ps → ds.length = ts.length ∧ vs.length = ts.length
  | [], vs, ds, ps, h => by obtain ⟨rfl, rfl, _⟩ := trodAll_nil h; exact ⟨rfl, rfl⟩
  | t :: ts, vs, ds, ps, h => by
    obtain ⟨v, vs', d, ds', p, q, rfl, rfl, _, _, h2⟩ := trodAll_cons h
    have := trodAll_len h2
    simp [this.1, this.2]
theorem trodAll_stays (hl : laidOutB P = true) (hb : Below W.heap.size W W') : ∀ {ts : List TypeId} {vs : List Value} {ds : List (DataW H)} {ps : List MemPlace},
    (∀ t ∈ ts, P.readableRec t = true ∧ t < P.types.size) → DataW.TrodAll enc P W 0 (fun _ => true) true ts vs ds ps → (∀ x ∈ ps, x.block < W.heap.size) →
    DataW.TrodAll enc P W' 0 (fun b => decide (b < W.heap.size)) true ts vs ds ps
  | [], vs, ds, ps, _, h, _ => by obtain ⟨rfl, rfl, rfl⟩ := trodAll_nil h; exact trodAll_mk0
  | t :: ts, vs, ds, ps, hr, h, hlt => by
    obtain ⟨v, vs', d, ds', p, q, rfl, rfl, rfl, h1, h2⟩ := trodAll_cons h
    exact trodAll_cons_mk (Below.trod hl (hr t (by simp)).1 (hr t (by simp)).2 h1 hb (fun x hx => hlt x (List.mem_append_left _ hx)))
      (trodAll_stays hl hb (fun u hu => hr u (by simp [hu])) h2 (fun x hx => hlt x (List.mem_append_right _ hx)))
theorem law_lifted {C : Checked} {os : Os} {f : FuncId} {fn : Func} {s : ChangeSpec} {conds : List PathCond} {tb : TypeId}
    (own : ownKnob C.prog.godebug = none) (started : os.Started) (noInit : C.prog.inits.idxOf? f = none) (hfn : C.prog.funcs[f]? = some fn)
    (witness : ∃ (w : World) (tape : Tape) (i : Input), w.os = os ∧ (w.forCall tape i).Shaped C.prog ∧ i.vars = [] ∧ Input.okWide C.prog (w.forCall tape i) .any w.heap.size f i ∧
      s.pre6 enc C.prog fn conds false (w.forCall tape i).memory i.args ∧ Assume.holds {} C.prog (lone (Frame.enter C.prog f i.args .normal) [] (w.forCall tape i)))
    (hvars : s.vars = []) (hspec : ∀ ds : List (DataW H), ds.length = fn.params.size → s.fn H ds = { results := [.lit (.bool true)], args := ds })
    (hres : fn.resultTypes = #[tb]) (hbool : C.prog.underlying tb = some .bool) (hlaid : laidOutB C.prog = true)
    (hread : ∀ t ∈ fn.params.toList, C.prog.readableRec t = true ∧ t < C.prog.types.size)
    (walk : ∀ (W : World) (base : Nat) (args : Array Value) (ds : List (DataW H)) (p : List MemPlace), (∀ (j : Nat) t v, fn.params[j]? = some t → args[j]? = some v → Value.okWide C.prog W .any base t v) →
      DataW.TrodAll enc C.prog W 0 (fun _ => true) true fn.params.toList args.toList ds p →
      (DataW.weightsEach C.prog (fn.params.toList ++ s.plain.varTypes C.prog) (ds ++ [])).all (· ≤ reachBytes) = true →
      Calls C.prog f args W fun e w' => e = .returned (.bool true) ∧ Below W.heap.size W w') :
    ReturnsInHanded {} C os f .any (s.pre6 enc C.prog fn conds false) (s.post enc C.prog fn false true false false) := by
  refine returnsInHanded_of_change_sized own started noInit hfn witness ?_
  intro W base args ds gs before hval hW hcnd hsz _
  have hW' := hW
  obtain ⟨p, q, hA, hV, rfl, hfz, hnd⟩ := hW
  have hV0 := hV
  rw [hvars] at hV0
  obtain ⟨rfl, rfl⟩ := trodVars_none hV0
  have hlen := trodAll_len hA
  have hs : s.fn H (ds ++ []) = { results := [.lit (.bool true)], args := ds } := by
    rw [List.append_nil]; exact hspec ds (by simpa using hlen.1)
  refine (walk W base args ds p hval hA hsz).mono fun e W' ⟨he, hB⟩ => ?_
  subst he
  refine ⟨_, rfl, ds, [], _, [], p, [], hW', ?_, ?_, ?_, hB.frame _, fun h => by cases h⟩
  · rw [hs, hres]
    exact trodAll_mk1 (shut_bool hbool _)
  · rw [hs]
    exact trodAll_stays hlaid hB hread hA (fun x hx => hW'.lt x (List.mem_append_left _ hx))
  · rw [hs, hvars]
    rfl
end

/-! ### what came in -/
/-- A slice of numbers. -/
def Ints (H : Heap) (k : IntKind) (x : Value) (xs : List Int) : Prop :=
  (x = .slice none 0 0 ∧ xs = []) ∨ ∃ b off c, x = .slice (some ⟨b, off, none⟩) xs.length c ∧ ∀ i (h : i < xs.length), H.load ⟨b, off + i, none⟩ = some (.int k xs[i])
theorem Ints.len {H : Heap} {k : IntKind} {x : Value} {xs : List Int} (h : Ints H k x xs) : ∃ a c, x = .slice a xs.length c := by
  rcases h with ⟨rfl, rfl⟩ | ⟨b, off, c, rfl, _⟩ <;> exact ⟨_, _, rfl⟩
/-- A slice of numbers that came in. -/
def IntsB (H : Heap) (k : IntKind) (x : Value) (xs : List Int) : Prop :=
  (x = .slice none 0 0 ∧ xs = []) ∨ ∃ b off c, x = .slice (some ⟨b, off, none⟩) xs.length c ∧ (0 < xs.length → b < H.B) ∧ ∀ i (h : i < xs.length), H.load ⟨b, off + i, none⟩ = some (.int k xs[i])
theorem IntsB.keep {H H' : Heap} {k : IntKind} {x : Value} {xs : List Int} (h : IntsB H k x xs) (hb : H'.base = H.base) : IntsB H' k x xs := by
  rcases h with h | ⟨b, off, c, rfl, h1, h2⟩
  · exact .inl h
  · refine .inr ⟨b, off, c, rfl, fun h => by rw [B_eq hb]; exact h1 h, fun i hi => ?_⟩
    rw [load_ext hb (h1 (by omega))]; exact h2 i hi
theorem IntsB.len {H : Heap} {k : IntKind} {x : Value} {xs : List Int} (h : IntsB H k x xs) : ∃ a c, x = .slice a xs.length c := by
  rcases h with ⟨rfl, rfl⟩ | ⟨b, off, c, rfl, _⟩ <;> exact ⟨_, _, rfl⟩
theorem IntsB.at {H : Heap} {k : IntKind} {x : Value} {xs : List Int} (h : IntsB H k x xs) {i : Nat} (hi : i < xs.length) : ∃ b off c, x = .slice (some ⟨b, off, none⟩) xs.length c ∧ b < H.B ∧ H.load ⟨b, off + i, none⟩ = some (.int k xs[i]) := by
  rcases h with ⟨rfl, rfl⟩ | ⟨b, off, c, rfl, h1, h2⟩
  · simp at hi
  · exact ⟨b, off, c, rfl, h1 (by omega), h2 i hi⟩
theorem Ints.ofB {W : World} {k : IntKind} {x : Value} {xs : List Int} (h : Ints (H0 W) k x xs) : IntsB (H0 W) k x xs := by
  rcases h with h | ⟨b, off, c, rfl, h2⟩
  · exact .inl h
  · refine .inr ⟨b, off, c, rfl, fun h => ?_, h2⟩
    have h3 := h2 0 h
    by_cases hb : b < (H0 W).B
    · exact hb
    · simp only [Heap.load, hb, if_false] at h3
      cases h3
theorem open_slice_ints {H : Type} {enc : TypeId × Value → H} {P : Program} {W : World} {base : Nat} {t e : TypeId} {k : IntKind} {v : Value} {d : DataW H} {p : List MemPlace}
    (ht : P.underlying t = some (.slice e)) (he : P.underlying e = some (.int k)) (hc : P.cellsOf e = 1) (hval : Value.okWide P W .any base t v)
    (hd : DataW.Trod enc P W 0 (fun _ => true) true t v d p) :
    ∃ x xs, Ints (H0 W) k x xs ∧ r3 ((H0 W).cx (fun _ => (0, 0))) x v ∧ (∀ n ∈ xs, (Lit.int k n).wf = true) ∧ ((d = .nil ∧ xs = []) ∨ ∃ rest, d = .slice (lits k xs) rest) := by
  obtain ⟨a0, len, cap, rfl⟩ := okWide_slice ht hval
  obtain ⟨fuel, hf⟩ := hd
  rcases open_ints ht he hc hf with ⟨hcs, hx⟩ | ⟨a, len', cap', zs, hcs, _, hl, hm, hz, hx, hcell, hwz⟩
  · simp [Value.cells] at hcs
    obtain ⟨rfl, rfl, rfl⟩ := hcs
    simp only [Prod.mk.injEq] at hx
    exact ⟨.slice none 0 0, [], .inl ⟨rfl, rfl⟩, rfl, by simp, .inl ⟨hx.1, rfl⟩⟩
  · simp [Value.cells] at hcs
    obtain ⟨rfl, rfl, rfl⟩ := hcs
    simp only [Prod.mk.injEq] at hx
    simp only [if_true] at hz
    have hok : a.block < W.heap.size ∧ a.spot = none := by
      have h := hval
      simp only [Value.okWide, ht, Cell.okWide, Cell.ok] at h
      obtain ⟨_, _, _, h2, row, cells, h3, _⟩ := h
      refine ⟨?_, h2⟩
      unfold World.shape? at h3
      cases hb : W.heap[a.block]? with
      | none => simp [hb] at h3
      | some o => exact (Array.getElem?_eq_some_iff.1 hb).1
    obtain ⟨b, off, spot⟩ := a
    obtain ⟨hb, hsp⟩ := hok
    simp only at hb hsp
    subst hsp
    have hlen : (zs.take len).length = len := by simp; omega
    refine ⟨.slice (some ⟨b, off, none⟩) len 2, zs.take len, .inr ⟨b, off, 2, by rw [hlen], ?_⟩, ?_, fun n hn => hwz n (List.mem_of_mem_take hn), .inr ⟨_, hx.1⟩⟩
    · intro i hi
      rw [hlen] at hi
      have h1 := hcell i (by omega)
      rw [add_own] at h1
      have hB : b < (H0 W).B := hb
      simp only [Heap.load]
      rw [if_pos hB]
      show (W.cell? ⟨b, off + i, none⟩).bind _ = _
      rw [h1]
      simp [extOk, absV, List.getD, List.getElem?_eq_getElem (show i < zs.length by omega)]
    · refine ⟨.inl hb, ⟨b, off, none⟩, cap, rfl, hl, fun _ => ?_, fun h => absurd h (by decide), fun h => absurd h (by decide)⟩
      have hB : b < (Heap.cx (H0 W) (fun _ => (0, 0))).B := hb
      simp [Cx.addr, hB]
end Go.Ot
