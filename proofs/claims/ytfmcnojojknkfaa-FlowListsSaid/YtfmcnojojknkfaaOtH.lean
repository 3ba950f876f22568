/-
  Part H: copy, len, texts and bytes, parts of values.
-/
import Derived.Test.YtfmcnojojknkfaaOtG
set_option linter.unusedVariables false
set_option linter.unusedSimpArgs false
namespace Go.Ot
open Go.RowKit

/-! ### copy -/
def sCopy (H : Heap) (sz : Nat) (x y : Value) : Option (Value × Heap) :=
  (srcCells H sz y).bind fun (m, xs) =>
    match x with
    | .slice none 0 _ => some (.int .i64 0, H)
    | .slice (some a) d _ => (Heap.storeN a 0 (xs.take (min m d * sz)) H).map fun H' => (.int .i64 (min m d : Nat), H')
    | _ => none
theorem stp_copy {P : Program} {H H' : Heap} {ρ : Nat → Nat × Nat} {w : World} (hR : Rep H ρ w) {t u ty e : TypeId} {i : TypeInfo} (ht : P.underlying t = some (.slice e)) (hi : P.info? e = some i)
    {x x' y y' v : Value} (hx : r3 (H.cx ρ) x x') (hy : r3 (H.cx ρ) y y') (hs : sCopy H i.size x y = some (v, H')) : Stp P H ρ w (Builtin.copy_ #[t, u] ty #[x', y']) v H' := by
  unfold sCopy at hs
  cases hsrc : srcCells H i.size y with
  | none => simp [hsrc] at hs
  | some mx =>
    obtain ⟨m, xs⟩ := mx
    simp only [hsrc, Option.bind_some] at hs
    obtain ⟨hl, hxl, cs, hcs, hfc⟩ := src_run (P := P) hR hy hsrc
    split at hs
    · cases hs
      have hx' : x' = .slice none 0 _ := hx
      subst hx'
      refine Stp.same (v' := .int .i64 0) hR ?_ rfl
      have hf0 := hfc w (fun _ => rfl) 0 (Nat.zero_le _)
      simp only [Nat.zero_mul, List.take_zero] at hf0
      simp [Builtin.copy_, run_underlying ht, hl, run_sizeOf hi, hf0, goInt, Nat.min_def]
    · rename_i a d code
      cases hst : Heap.storeN a 0 (xs.take (min m d * i.size)) H with
      | none => simp [hst] at hs
      | some H1 =>
        simp only [hst, Option.map_some, Option.some.injEq, Prod.mk.injEq] at hs
        obtain ⟨rfl, rfl⟩ := hs
        simp only [r3, r2, r1, r0] at hx
        obtain ⟨hok, a', cap', rfl, hle, hoff, h6, h7⟩ := hx
        have hk : min m d ≤ m := Nat.min_le_left _ _
        have hfk := hfc w (fun _ => rfl) (min m d) hk
        obtain ⟨w', hrun, hR', hb, hn⟩ := hR.storeN (P := P) hok hst (hcs.take _)
        have hmin : Nat.min m d = min m d := rfl
        have hrun' : (storeCells a' (cs.take (min m d * i.size))).run P w = .ok () w' := by
          by_cases h0 : min m d = 0
          · rw [h0] at hrun ⊢
            simp only [Nat.zero_mul, List.take_zero, storeCells] at hrun ⊢
            exact hrun
          · rw [hoff (by omega)]; exact hrun
        have hcx : H1.cx ρ = H.cx ρ := by simp [Heap.cx, Heap.B, Heap.N, hb, hn]
        refine ⟨ρ, .int .i64 (min m d : Nat), w', ?_, rfl, hR', by rw [hcx]; exact Cx.le.refl _⟩
        simp only [Builtin.copy_, Sem.run_bind, run_underlying ht, Result.andThen_ok, hl, run_sizeOf hi, hmin, hfk, Sem.run_pure]
        simp [hrun', goInt, run_underlying ht, hl, run_sizeOf hi, hfk, hmin]
    · cases hs

/-! ### len -/
def sLen (x : Value) : Option Value :=
  match x with
  | .string s => some (.int .i64 s.size)
  | .slice _ n _ => some (.int .i64 n)
  | _ => none
theorem r3_slice_len {c : Cx} {a : Option Addr} {n k : Nat} {v' : Value} (h : r3 c (.slice a n k) v') : ∃ a' k', v' = .slice a' n k' := by
  cases a with
  | none => exact ⟨none, k, h⟩
  | some a => obtain ⟨_, a', cap', h, _⟩ := h; exact ⟨some a', cap', h⟩
theorem stp_len {P : Program} {H : Heap} {ρ : Nat → Nat × Nat} {w : World} (hR : Rep H ρ w) {t ty : TypeId} (ht : (∃ e, P.underlying t = some (.slice e)) ∨ P.underlying t = some .string)
    {x x' v : Value} (hfit : (match x with | .string _ => P.underlying t = some .string | _ => ∃ e, P.underlying t = some (.slice e))) (hx : r3 (H.cx ρ) x x') (hs : sLen x = some v) : Stp P H ρ w (Builtin.len_ #[t] ty #[x']) v H := by
  unfold sLen at hs
  split at hs
  · cases hs
    have hx' : x' = .string _ := hx
    subst hx'
    refine Stp.same hR ?_ rfl
    simp only at hfit
    simp [Builtin.len_, run_underlying hfit, goInt]
  · cases hs
    obtain ⟨a', k', rfl⟩ := r3_slice_len hx
    refine Stp.same hR ?_ rfl
    simp only at hfit
    obtain ⟨e, he⟩ := hfit
    simp [Builtin.len_, run_underlying he, goInt]
  · cases hs

/-! ### bytes and texts -/
def byteNums : List Value → Option (List Int)
  | [] => some []
  | .int .u8 n :: rest => (byteNums rest).map (n :: ·)
  | _ :: _ => none
theorem byteNums_eq {xs : List Value} : ∀ {ns : List Int}, byteNums xs = some ns → xs = ns.map (Value.int .u8) := by
  induction xs with
  | nil => intro ns h; simp [byteNums] at h; subst h; rfl
  | cons v rest ih =>
    intro ns h
    unfold byteNums at h
    split at h
    · rename_i h0; cases h0
    · rename_i n rest' h0
      cases h0
      cases hr : byteNums rest with
      | none => simp [hr] at h
      | some ms => simp [hr] at h; subst h; simp [ih hr]
    · cases h
theorem byteNums_map (ns : List Int) : byteNums (ns.map (Value.int .u8)) = some ns := by
  induction ns with
  | nil => rfl
  | cons n ns ih => simp [byteNums, ih]
def sToStr (H : Heap) (x : Value) : Option Value :=
  match x with
  | .slice none 0 _ => some (.string ByteArray.empty)
  | .slice (some a) n _ => (H.loadN a 0 n).bind fun xs => (byteNums xs).map fun ns => .string (strOfNums ns)
  | _ => none
theorem stp_toStr {P : Program} {H : Heap} {ρ : Nat → Nat × Nat} {w : World} (hR : Rep H ρ w) {src dst e : TypeId} (hs : P.underlying src = some (.slice e)) (he : P.underlying e = some (.int .u8)) (hd : P.underlying dst = some .string)
    {x x' v : Value} (hx : r3 (H.cx ρ) x x') (ho : sToStr H x = some v) : Stp P H ρ w (convert src dst x') v H := by
  unfold sToStr at ho
  split at ho
  · cases ho
    have hx' : x' = .slice none 0 _ := hx
    subst hx'
    refine Stp.same (v' := .string ByteArray.empty) hR (run_convert_bytes_nil w src e hs he 0 _ dst hd) rfl
  · rename_i a n code
    cases hl : H.loadN a 0 n with
    | none => simp [hl] at ho
    | some xs =>
      simp only [hl, Option.bind_some] at ho
      cases hb : byteNums xs with
      | none => simp [hb] at ho
      | some ns =>
        simp [hb] at ho; subst ho
        have hxs := byteNums_eq hb
        simp only [r3, r2, r1, r0] at hx
        obtain ⟨hok, a', cap', rfl, hle, hoff, _, _⟩ := hx
        obtain ⟨cs, hcs, hcell⟩ := hR.loadN hok hl
        have hcs' : cs = ns.map (Value.int .u8) := by
          rw [← hxs]
          exact all2_plain1_eq (by rw [hxs]; intro v hv; simp only [List.mem_map] at hv; obtain ⟨b, _, rfl⟩ := hv; rfl) hcs
        subst hcs'
        have hlen : (ns.map (Value.int .u8)).length = n := by rw [← hxs]; exact Heap.loadN_length hl
        have hlc : (loadCells a' n).run P w = .ok (ns.map (Value.int .u8)).toArray w := by
          by_cases h0 : n = 0
          · subst h0
            have : ns = [] := List.eq_nil_of_length_eq_zero (by simpa using hlen)
            subst this
            simp [loadCells, loadCellsFrom]
          · rw [hoff (by omega), ← hlen]
            exact run_loadCells_list w _ _ (fun j v hj => by simpa using hcell j v hj)
        refine Stp.same (v' := .string (strOfNums ns)) hR ?_ rfl
        rw [run_convert_bytes_string w src dst e _ n cap' hs he hd, run_bytesToString w a' n cap' ns hlc, foldl_push_bytes]
        simp [strOfNums, ByteArray.empty, ByteArray.emptyWithCapacity]
        rfl
  · cases ho
/-- []byte(s). -/
def sToBytes (H : Heap) (ety : TypeId) (x : Value) : Option (Value × Heap) :=
  match x with
  | .string s => if s.size ≤ 140737488355328 then some (.slice (some ⟨H.next, 0, none⟩) s.size 0, H.new ety 1 (bytesV s)) else none
  | _ => none
theorem stp_toBytes {P : Program} {H H' : Heap} {ρ : Nat → Nat × Nat} {w : World} (hR : Rep H ρ w) {src dst e : TypeId} (hs : P.underlying src = some .string) (hd : P.underlying dst = some (.slice e)) (he : P.underlying e = some (.int .u8))
    {x x' v : Value} (hx : r3 (H.cx ρ) x x') (ho : sToBytes H e x = some (v, H')) : Stp P H ρ w (convert src dst x') v H' := by
  unfold sToBytes at ho
  split at ho
  · rename_i s
    split at ho
    · rename_i hsz
      cases ho
      have hx' : x' = .string s := hx
      subst hx'
      have hge := grownCap_ge w s.size 0 e
      have hcm := grownCap_le_maxLen w s.size 0 e (by rw [maxLen_val]; omega)
      have hbl : (bytesV s).length = s.size := by simp only [bytesV, List.length_map, Array.length_toList]; rfl
      let cur : Array Value := s.data.map (fun b => Value.int .u8 b.toNat) ++ Array.replicate (grownCap w s.size 0 e - s.size) (.int .u8 0)
      have hcl : cur.toList = bytesV s ++ List.replicate (grownCap w s.size 0 e - s.size) (.int .u8 0) := by simp [cur, bytesV]
      have hcs : cur.size = grownCap w s.size 0 e := by
        rw [← Array.length_toList, hcl, List.length_append, hbl, List.length_replicate]; omega
      have hheap : ((w.drew.alloc (.cells cur e)).freeze ⟨w.heap.size, cur.size, none⟩ 1).heap[w.heap.size]? = some (.cells cur e (cur.size, cur.size + 1)) := by
        have h0 : (w.drew.alloc (.cells cur e)).heap[w.heap.size]? = some (.cells cur e) := heap_alloc_new w.drew (.cells cur e)
        simp only [World.freeze, Nat.one_ne_zero, if_false]
        rw [Array.getElem?_modify, if_pos rfl, h0]
        rfl
      have hbel : Below H.N H.base.w ((w.drew.alloc (.cells cur e)).freeze ⟨w.heap.size, cur.size, none⟩ 1) := by
        have h1 := hR.below.drew.alloc (show H.N ≤ w.drew.heap.size from hR.below.size) (.cells cur e)
        refine h1.trans ⟨by simp [World.freeze], by simp [World.freeze], by simp [World.freeze], by simp [World.freeze], fun k hk => ?_⟩
        have : H.N ≤ w.heap.size := hR.below.size
        simp only [World.freeze, Nat.one_ne_zero, if_false, Array.getElem?_modify]
        rw [if_neg (by omega)]
      have hnew := hR.add e 1 (bytesV s) w.heap.size (grownCap w s.size 0 e) hbel (by rw [if_pos Nat.one_pos]; exact ⟨hR.below.size, hcm, Nat.one_pos, cur, _, hheap, Or.inr (Nat.le_refl _), by rw [hcs]; simp, by
        show All2 _ (bytesV s) (cur.toList.take (bytesV s).length)
        rw [hcl, List.take_left]
        exact All2.of_same fun v hv => plain1_self (by simp only [bytesV, List.mem_map] at hv; obtain ⟨b, _, rfl⟩ := hv; rfl)⟩) (by
          intro b k hk
          have hlt := hR.lt hk
          refine ⟨by omega, ?_⟩
          simp only [World.freeze, Nat.one_ne_zero, if_false, Array.getElem?_modify]
          rw [if_neg (by omega)]
          exact heap_alloc_old w.drew _ hlt)
      refine ⟨_, .slice (some ⟨w.heap.size, 0, none⟩) s.size (grownCap w s.size 0 e), _, ?_, r3_newRow ρ e 1 _ _ _ _ hge hR.next, hnew, le_new H ρ _ _ _ _⟩
      have hcap : (Question.appendCap s.size 0 e).cut (w.tape w.drawn (.appendCap s.size 0 e)) = grownCap w s.size 0 e := rfl
      have hsh : (w.drew.alloc (.cells cur e)).shape? w.heap.size = some (e, cur.size) := by
        have h0 : (w.drew.alloc (.cells cur e)).heap[w.heap.size]? = some (.cells cur e) := heap_alloc_new w.drew (.cells cur e)
        simp only [World.shape?, h0]
      simp [convert, run_underlying hs, run_underlying hd, run_underlying he, Conv.stringToBytes, Question.forced, hcap, newRow, markStringish]
      show ((Sem.run P (match (w.drew.alloc (Obj.cells cur e)).shape? w.heap.size with
          | some (fst, n) => freeze { block := w.heap.size, off := n } 1
          | x => pure ()) (w.drew.alloc (Obj.cells cur e))).andThen fun a w' => _) = _
      rw [hsh]
      rfl
    · cases ho
  · cases ho
end Go.Ot
