/-
  Part G: append, copy, len, texts and bytes, and the rest.
-/
import Derived.Test.YtfmcnojojknkfaaOtF
import Derived.Laws.CopyOwn
set_option linter.unusedVariables false
set_option linter.unusedSimpArgs false
namespace Go.Ot
open Go.RowKit

def bytesV (s : ByteArray) : List Value := s.data.toList.map fun b => Value.int .u8 b.toNat
/-- What is appended or copied: how many elements, and their cells. -/
def srcCells (H : Heap) (sz : Nat) (y : Value) : Option (Nat × List Value) :=
  match y with
  | .slice none 0 _ => some (0, [])
  | .slice (some a) m _ => (H.loadN a 0 (m * sz)).map fun xs => (m, xs)
  | .string s => if sz = 1 then some (s.size, bytesV s) else none
  | _ => none
theorem loadN_take {H : Heap} {a : Addr} : ∀ {n i : Nat} {xs : List Value} (k : Nat), H.loadN a i n = some xs → k ≤ n → H.loadN a i k = some (xs.take k)
  | _, _, _, 0, _, _ => by simp [Heap.loadN]
  | 0, i, xs, k + 1, _, h => by omega
  | n + 1, i, xs, k + 1, hl, h => by
    simp only [Heap.loadN] at hl ⊢
    cases hv : H.load (a.add i) with
    | none => simp [hv] at hl
    | some v =>
      cases hr : H.loadN a (i + 1) n with
      | none => simp [hv, hr] at hl
      | some ys =>
        simp [hv, hr] at hl; subst hl
        simp [loadN_take k hr (by omega)]
/-- The cells that a source gives: the first k elements. -/
theorem src_run {P : Program} {H : Heap} {ρ : Nat → Nat × Nat} {w : World} (hR : Rep H ρ w) {sz : Nat} {y y' : Value} (hy : r3 (H.cx ρ) y y') {m : Nat} {xs : List Value} (hs : srcCells H sz y = some (m, xs)) :
    (Builtin.lenOf y').run P w = .ok m w ∧ xs.length = m * sz ∧ ∃ cs, All2 (r1 (H.cx ρ)) xs cs ∧
      ∀ (w1 : World), (∀ a, w1.cell? a = w.cell? a) → ∀ k, k ≤ m → (Builtin.firstCells sz k y').run P w1 = .ok (cs.take (k * sz)).toArray w1 := by
  unfold srcCells at hs
  split at hs
  · cases hs
    have hy' : y' = .slice none 0 _ := hy
    subst hy'
    exact ⟨by simp [Builtin.lenOf], by simp, [], .nil, fun w1 _ k hk => by simp [Builtin.firstCells]⟩
  · rename_i a n _
    cases hl : H.loadN a 0 (n * sz) with
    | none => simp [hl] at hs
    | some zs =>
      simp [hl] at hs
      obtain ⟨rfl, rfl⟩ := hs
      simp only [r3, r2, r1, r0] at hy
      obtain ⟨hok, a', cap', rfl, hle, hoff, _, _⟩ := hy
      obtain ⟨cs, hcs, hcell⟩ := hR.loadN hok hl
      have hlen : cs.length = n * sz := by rw [← hcs.length, Heap.loadN_length hl]
      refine ⟨by simp [Builtin.lenOf], Heap.loadN_length hl, cs, hcs, fun w1 hw k hk => ?_⟩
      have hkl : k * sz ≤ cs.length := by rw [hlen]; exact Nat.mul_le_mul_right _ hk
      by_cases hn : n = 0
      · have hk0 : k = 0 := by omega
        subst hk0
        simp [Builtin.firstCells, loadCells, loadCellsFrom]
      · have he := hoff (by omega)
        subst he
        have := run_loadCells_list (P := P) w1 ((H.cx ρ).addr a) (cs.take (k * sz)) (fun j v hj => by
          rw [List.getElem?_take] at hj
          split at hj
          · rw [hw]; simpa using hcell j v hj
          · cases hj)
        rw [List.length_take, Nat.min_eq_left hkl] at this
        simpa [Builtin.firstCells] using this
  · rename_i s
    split at hs
    · rename_i h1
      subst h1
      cases hs
      have hy' : y' = .string s := hy
      subst hy'
      refine ⟨by simp [Builtin.lenOf], by simp only [bytesV, List.length_map, Array.length_toList, Nat.mul_one]; rfl, bytesV s, All2.of_same (fun v hv => ?_), fun w1 _ k hk => ?_⟩
      · simp only [bytesV, List.mem_map] at hv
        obtain ⟨b, _, rfl⟩ := hv
        rfl
      · simp only [Builtin.firstCells, Sem.run_pure, Nat.mul_one]
        congr 1
        apply Array.ext'
        simp [bytesV, List.map_take, ByteArray.data_extract]
    · cases hs
  · cases hs

/-- Cells stored one behind the other into a block that bars none of them. -/
theorem run_storeCells_free {P : Program} (g o : Nat) (t : TypeId) (fz : Nat × Nat) : ∀ (vs : List Value) (i : Nat) (cur : Array Value) (w : World), w.heap[g]? = some (.cells cur t fz) → Free cur.size fz → o + i + vs.length ≤ cur.size → (∀ v ∈ vs, v.oneCell' = true) →
    (storeCells ⟨g, o, none⟩ vs i).run P w = .ok () (w.setRow g (cur.toList.take (o + i) ++ vs ++ cur.toList.drop (o + i + vs.length)).toArray)
  | [], i, cur, w, hg, _, _, _ => by
    simp only [storeCells, List.append_nil, List.length_nil, Nat.add_zero, List.take_append_drop, Array.toArray_toList]
    rw [setRow_self w g cur t fz hg]
    rfl
  | v :: rest, i, cur, w, hg, hf, hl, h1 => by
    have hi : o + i < cur.size := by simp at hl; omega
    have hadd : (⟨g, o, none⟩ : Addr).add i = ⟨g, o + i, none⟩ := by unfold Addr.add; split <;> simp_all
    have hcell : w.cell? ⟨g, o + i, none⟩ = some cur[o + i] := by simp [World.cell?, hg, hi]
    have hfro : w.frozen? ⟨g, o + i, none⟩ = false := by
      obtain ⟨f1, f2⟩ := fz
      have := hf.no _ hi
      simp only [World.frozen?, hg, Bool.and_eq_false_iff, decide_eq_false_iff_not]
      by_cases hx : f1 ≤ o + i
      · exact .inr (fun hy => this ⟨hx, hy⟩)
      · exact .inl hx
    have hst : (store ((⟨g, o, none⟩ : Addr).add i) v).run P w = .ok () (w.setRow g (cur.setIfInBounds (o + i) v)) := by
      rw [hadd, run_store P w _ v _ (h1 v (by simp)), hcell]
      simp [hfro, setCell_eq_setRow w g (o + i) cur t fz v hg]
    have ih := run_storeCells_free (P := P) g o t fz rest (i + 1) (cur.setIfInBounds (o + i) v) (w.setRow g (cur.setIfInBounds (o + i) v)) (setRow_heap w g cur _ t fz hg) (by simpa using hf) (by simp at hl ⊢; omega) (fun x hx => h1 x (by simp [hx]))
    simp only [storeCells, Sem.run_bind, hst, Result.andThen_ok, ih, setRow_setRow]
    congr 3
    have e := list_seg_step cur.toList (o + i) v rest (by simp at hl ⊢; omega)
    simpa [Array.toList_setIfInBounds, Nat.add_assoc] using e

section
variable {P : Program} {w : World} {t u ty e : TypeId} {i : TypeInfo} {z : Value}
theorem run_append_in (ht : P.underlying t = some (.slice e)) (hu : (∃ e', P.underlying u = some (.slice e')) ∨ P.underlying u = some .string) (hi : P.info? e = some i)
    (a : Option Addr) (sLen sCap : Nat) (x : Value) (m : Nat) (news : List Value) (hl : (Builtin.lenOf x).run P w = .ok m w) (hf : (Builtin.firstCells i.size m x).run P w = .ok news.toArray w) (hroom : sLen + m ≤ sCap)
    {w' : World} (hst : match a with | some a => (storeCells (a.add (sLen * i.size)) news).run P w = .ok () w' | none => w' = w) :
    (Builtin.append_ #[t, u] ty #[.slice a sLen sCap, x]).run P w = .ok (.slice a (sLen + m) sCap) w' := by
  cases a with
  | none =>
    subst hst
    rcases hu with ⟨e', hu⟩ | hu <;> simp [Builtin.append_, run_underlying ht, run_underlying hu, sizeOf, typeInfo, hi, hl, hroom, hf]
  | some a =>
    simp only at hst
    rcases hu with ⟨e', hu⟩ | hu <;> simp [Builtin.append_, run_underlying ht, run_underlying hu, sizeOf, typeInfo, hi, hl, hroom, hf, hst]
theorem run_append_out (ht : P.underlying t = some (.slice e)) (hu : (∃ e', P.underlying u = some (.slice e')) ∨ P.underlying u = some .string) (hi : P.info? e = some i) (hz : i.zero = some z)
    (a : Option Addr) (sLen sCap : Nat) (x : Value) (m : Nat) (olds news : List Value) (hl : (Builtin.lenOf x).run P w = .ok m w) (hfo : (Builtin.firstCells i.size sLen (.slice a sLen sCap)).run P w.drew = .ok olds.toArray w.drew)
    (hf : (Builtin.firstCells i.size m x).run P w.drew = .ok news.toArray w.drew) (hg : sCap < sLen + m) (hb : (sLen + m) * i.bytes ≤ 140737488355328) (hb1 : 0 < i.bytes) :
    (Builtin.append_ #[t, u] ty #[.slice a sLen sCap, x]).run P w =
      .ok (.slice (some ⟨w.heap.size, 0, none⟩) (sLen + m) (grownCap w (sLen + m) sCap e)) (w.drew.alloc (.cells (olds.toArray ++ news.toArray ++ Builtin.zeroCells z.cells (grownCap w (sLen + m) sCap e - (sLen + m))) e)) := by
  have hn : ¬ (sLen + m ≤ sCap) := by omega
  have hle : sLen + m ≤ (sLen + m) * i.bytes := Nat.le_mul_of_pos_right _ hb1
  have h63' : ¬ (9223372036854775807 < ((sLen : Int) + (m : Int))) := by omega
  have hfit := growslice_fits (old := sCap) (need := sLen + m) (bytes := i.bytes) hg hb
  have h48' : ¬ (281474976710656 < Builtin.nextslicecap (sLen + m) sCap * i.bytes) := by omega
  have hcap : (Question.appendCap (sLen + m) sCap e).cut (w.tape w.drawn (.appendCap (sLen + m) sCap e)) = grownCap w (sLen + m) sCap e := rfl
  rcases hu with ⟨e', hu⟩ | hu
  all_goals
    simp [Builtin.append_, run_underlying ht, run_underlying hu, sizeOf, typeInfo, zeroValue, hi, hz, hl, hn, h63', h48', Question.forced, hcap]
    rw [hfo, Result.andThen_ok, hf, Result.andThen_ok]
    simp [newRow]
    congr 2
    apply Array.ext'
    simp
end
theorem add0 (g k : Nat) : (⟨g, 0, none⟩ : Addr).add k = ⟨g, k, none⟩ := by unfold Addr.add; split <;> simp_all
theorem zeroCells_size {z : Array Value} {n : Nat} : (Builtin.zeroCells z n).size = n * z.size := size_zeroCells z n

/-- append: the slice, and the heap behind it. -/
def sAppend (H : Heap) (ety : TypeId) (sz bytes : Nat) (x y : Value) : Option (Value × Heap) :=
  (srcCells H sz y).bind fun (m, xs) =>
    match x with
    | .slice none 0 0 =>
      if m = 0 then some (.slice none 0 0, H)
      else if m * bytes ≤ 140737488355328 then some (.slice (some ⟨H.next, 0, none⟩) m 0, H.new ety sz xs) else none
    | .slice (some a) n code =>
      if m = 0 then some (x, H)
      else if (n + m) * bytes ≤ 140737488355328 then
        if code = 0 then
          (H.blk a.block).bind fun k => if k.ty = ety ∧ k.sz = sz ∧ n * sz ≤ k.cells.length then some (.slice (some ⟨H.next, 0, none⟩) (n + m) 0, (H.kill a.block).new ety sz (k.cells.take (n * sz) ++ xs)) else none
        else if code = 1 then (H.loadN a 0 (n * sz)).map fun olds => (.slice (some ⟨H.next, 0, none⟩) (n + m) 0, H.new ety sz (olds ++ xs))
        else none
      else none
    | _ => none
theorem Rep.killed {H : Heap} {ρ : Nat → Nat × Nat} {w : World} (hR : Rep H ρ w) (b : Nat) : Rep (H.kill b) ρ w := hR.kill b

theorem le_kill_new (H : Heap) (ρ : Nat → Nat × Nat) (b : Nat) (p : Nat × Nat) (ty : TypeId) (sz : Nat) (cells : List Value) : (H.cx ρ).le (((H.kill b).new ty sz cells).cx (up ρ H.next p)) :=
  le_up H ρ p rfl (Nat.le_succ _)
section
variable {P : Program} {H H' : Heap} {ρ : Nat → Nat × Nat} {w : World} {t u ty e : TypeId} {i : TypeInfo} {z : Value}
/-- The arm that grows. -/
theorem append_grows (hR : Rep H ρ w) (ht : P.underlying t = some (.slice e)) (hu : (∃ e', P.underlying u = some (.slice e')) ∨ P.underlying u = some .string) (hi : P.info? e = some i) (hz : i.zero = some z)
    (hzs : z.cells.size = i.size) (hpos : 0 < i.size) (hb1 : 0 < i.bytes) (a : Option Addr) (n cap : Nat) (y' : Value) (m : Nat) (olds news : List Value) (oldsA newsA : List Value)
    (ho : All2 (r1 (H.cx ρ)) oldsA olds) (hn : All2 (r1 (H.cx ρ)) newsA news) (hol : olds.length = n * i.size) (hnl : news.length = m * i.size)
    (hl : (Builtin.lenOf y').run P w = .ok m w) (hfo : (Builtin.firstCells i.size n (.slice a n cap)).run P w.drew = .ok olds.toArray w.drew)
    (hf : (Builtin.firstCells i.size m y').run P w.drew = .ok news.toArray w.drew) (hg : cap < n + m) (hb : (n + m) * i.bytes ≤ 140737488355328) :
    Stp P H ρ w (Builtin.append_ #[t, u] ty #[.slice a n cap, y']) (.slice (some ⟨H.next, 0, none⟩) (n + m) 0) (H.new e i.size (oldsA ++ newsA)) := by
  have hrun := run_append_out (ty := ty) ht hu hi hz a n cap y' m olds news hl hfo hf hg hb hb1
  have hle : n + m ≤ (n + m) * i.bytes := Nat.le_mul_of_pos_right _ hb1
  have hml : n + m ≤ maxLen := by rw [maxLen_val]; omega
  have hge := grownCap_ge w (n + m) cap e
  have hcm := grownCap_le_maxLen w (n + m) cap e hml
  have hall := ho.append hn
  have hlen : (oldsA ++ newsA).length = (n + m) * i.size := by rw [hall.length, List.length_append, hol, hnl, Nat.add_mul]
  have hcur : (olds.toArray ++ news.toArray ++ Builtin.zeroCells z.cells (grownCap w (n + m) cap e - (n + m))).size = grownCap w (n + m) cap e * i.size := by
    simp only [Array.size_append, List.size_toArray, size_zeroCells, hzs, hol, hnl, ← Nat.add_mul]
    congr 1
    omega
  have hR' := hR.drew.alloc e i.size hpos (oldsA ++ newsA) (olds.toArray ++ news.toArray ++ Builtin.zeroCells z.cells (grownCap w (n + m) cap e - (n + m))) (0, 0) (grownCap w (n + m) cap e) hcm (free00 _) hcur (by
    simp only [Array.toList_append, List.append_assoc]
    rw [← List.append_assoc, hall.length, List.take_left]
    exact hall)
  exact ⟨_, _, _, hrun, r3_newRow ρ e i.size _ _ _ _ hge hR.next, hR', le_new H ρ _ _ _ _⟩
set_option maxHeartbeats 1000000 in
theorem stp_append (hR : Rep H ρ w) (ht : P.underlying t = some (.slice e)) (hu : (∃ e', P.underlying u = some (.slice e')) ∨ P.underlying u = some .string) (hi : P.info? e = some i) (hz : i.zero = some z)
    (hzs : z.cells.size = i.size) (hpos : 0 < i.size) (hb1 : 0 < i.bytes) {x x' y y' v : Value} (hx : r3 (H.cx ρ) x x') (hy : r3 (H.cx ρ) y y') (hs : sAppend H e i.size i.bytes x y = some (v, H')) :
    Stp P H ρ w (Builtin.append_ #[t, u] ty #[x', y']) v H' := by
  unfold sAppend at hs
  cases hsrc : srcCells H i.size y with
  | none => simp [hsrc] at hs
  | some mx =>
    obtain ⟨m, xs⟩ := mx
    simp only [hsrc, Option.bind_some] at hs
    obtain ⟨hl, hxl, cs, hcs, hfc⟩ := src_run (P := P) hR hy hsrc
    have hcl : cs.length = m * i.size := by rw [← hcs.length, hxl]
    have hf : ∀ w1 : World, (∀ a, w1.cell? a = w.cell? a) → (Builtin.firstCells i.size m y').run P w1 = .ok cs.toArray w1 := fun w1 hw => by
      have := hfc w1 hw m (Nat.le_refl _)
      rw [← hcl, List.take_length] at this
      exact this
    split at hs
    · have hx' : x' = .slice none 0 0 := hx
      subst hx'
      split at hs
      · rename_i hm0
        cases hs
        subst hm0
        have hc0 : cs = [] := List.eq_nil_of_length_eq_zero (by simpa using hcl)
        refine Stp.same (v' := .slice none 0 0) hR ?_ rfl
        have := run_append_in (ty := ty) ht hu hi none 0 0 y' 0 cs hl (hf w (fun _ => rfl)) (Nat.le_refl _) (w' := w) rfl
        simpa using this
      · rename_i hm0
        split at hs
        · rename_i hb
          cases hs
          have := append_grows (ty := ty) hR ht hu hi hz hzs hpos hb1 none 0 0 y' m [] cs [] xs .nil hcs (by simp) hcl hl (by simp [Builtin.firstCells]) (hf w.drew (fun _ => rfl)) (by omega) (by simpa using hb)
          simpa using this
        · cases hs
    · rename_i a n code
      have hx0 := hx
      simp only [r3, r2, r1, r0] at hx
      obtain ⟨hok, a', cap', rfl, hle, hoff, h6, h7⟩ := hx
      split at hs
      · rename_i hm0
        cases hs
        subst hm0
        have hc0 : cs = [] := List.eq_nil_of_length_eq_zero (by simpa using hcl)
        subst hc0
        refine Stp.same (v' := .slice (some a') n cap') hR ?_ hx0
        have := run_append_in (ty := ty) ht hu hi (some a') n cap' y' 0 [] hl (hf w (fun _ => rfl)) (by omega) (w' := w) (by simp [storeCells])
        simpa using this
      · rename_i hm0
        split at hs
        · rename_i hb
          split at hs
          · rename_i hc0
            obtain ⟨g1, g2, g3, g4⟩ := h6 hc0
            cases hk : H.blk a.block with
            | none => simp [hk] at hs
            | some k =>
              simp only [hk, Option.bind_some] at hs
              split at hs
              · rename_i hkc
                obtain ⟨hkt, hks, hkl⟩ := hkc
                cases hs
                have hrow := hR.row _ _ hk (by rw [hks]; exact hpos)
                obtain ⟨q1, q2, q3, cur, fz, q4, q5, q6, q7⟩ := hrow
                have haddr : a' = ⟨(ρ a.block).1, 0, none⟩ := by
                  have g1' : ¬ a.block < H.B := g1
                  rw [g3]; simp [Cx.addr, Heap.cx, g1', g2]
                have g4' : cap' = (ρ a.block).2 := g4
                have hcursz : cur.size = cap' * i.size := by rw [q6, hks, g4']
                have hlenq := q7.length
                have holdsA : All2 (r1 (H.cx ρ)) (k.cells.take (n * i.size)) (cur.toList.take (n * i.size)) := by
                  have := q7.take (n * i.size)
                  rwa [List.take_take, Nat.min_eq_left hkl] at this
                by_cases hroom : n + m ≤ cap'
                · -- there is room: the cells go into the row itself
                  have hfit : n * i.size + cs.length ≤ cur.size := by rw [hcl, hcursz, ← Nat.add_mul]; exact Nat.mul_le_mul_right _ hroom
                  have hone : ∀ v ∈ cs, v.oneCell' = true := hcs.forall_right (p := fun v => v.oneCell' = true) (fun _ _ h => r1_oneCell h)
                  have hst := run_storeCells_free (P := P) (ρ a.block).1 (n * i.size) k.ty fz cs 0 cur w q4 q5 (by simpa using hfit) hone
                  simp only [Nat.add_zero] at hst
                  have hadd : a'.add (n * i.size) = ⟨(ρ a.block).1, n * i.size, none⟩ := by rw [haddr]; exact add0 _ _
                  have hrun := run_append_in (ty := ty) ht hu hi (some a') n cap' y' m cs hl (hf w (fun _ => rfl)) hroom (by show (storeCells (a'.add (n * i.size)) cs).run P w = _; rw [hadd]; exact hst)
                  have hheap := setRow_heap w (ρ a.block).1 cur (cur.toList.take (n * i.size) ++ cs ++ cur.toList.drop (n * i.size + cs.length)).toArray k.ty fz q4
                  have hsize : (cur.toList.take (n * i.size) ++ cs ++ cur.toList.drop (n * i.size + cs.length)).length = cur.size := by
                    simp only [List.length_append, List.length_take, List.length_drop, Array.length_toList]; omega
                  have hall := holdsA.append hcs
                  have hRn := hR.kill a.block
                  have hnew : Rep ((H.kill a.block).new e i.size (k.cells.take (n * i.size) ++ xs)) (up ρ H.next ((ρ a.block).1, cap')) (w.setRow (ρ a.block).1 (cur.toList.take (n * i.size) ++ cs ++ cur.toList.drop (n * i.size + cs.length)).toArray) := by
                    refine hRn.add e i.size _ (ρ a.block).1 cap' ?_ ?_ ?_
                    · exact below_setRow hR.below q1 _
                    · rw [if_pos hpos]
                      refine ⟨q1, by rw [g4']; exact q2, hpos, _, fz, by rw [← hkt]; exact hheap, ?_, ?_, ?_⟩
                      · rw [List.size_toArray, hsize]; exact q5
                      · rw [List.size_toArray, hsize]; exact hcursz
                      · have hl2 : (k.cells.take (n * i.size) ++ xs).length = (cur.toList.take (n * i.size) ++ cs).length := hall.length
                        rw [hl2, List.take_left]
                        exact hall.imp (fun _ _ => r1_mono (le_kill_new H ρ a.block _ _ _ _))
                    · intro b kb hbk
                      unfold Heap.kill at hbk
                      simp only at hbk
                      split at hbk
                      · cases hbk
                      · rename_i hne
                        have hgne : (ρ b).1 ≠ (ρ a.block).1 := fun he => hne (hR.inj _ _ _ _ hbk hk he)
                        exact ⟨hgne, setRow_other w _ _ _ hgne⟩
                  refine ⟨_, _, _, hrun, ?_, hnew, le_kill_new H ρ a.block _ _ _ _⟩
                  rw [haddr]
                  exact r3_newRow (H := H.kill a.block) ρ e i.size _ _ _ _ hroom hR.next
                · -- it grows
                  have hB' : ¬ a.block < H.B := g1
                  have hcellOld : ∀ j v, (cur.toList.take (n * i.size))[j]? = some v → w.drew.cell? (a'.add j) = some v := by
                    intro j v hj
                    rw [List.getElem?_take] at hj
                    split at hj
                    · have : a'.add j = ⟨(ρ a.block).1, j, none⟩ := by rw [haddr]; exact add0 _ _
                      rw [this]
                      show w.cell? _ = _
                      rw [cell_of_row _ _ _ _ _ _ q4]; simpa using hj
                    · cases hj
                  have hol : (cur.toList.take (n * i.size)).length = n * i.size := by
                    rw [List.length_take, Array.length_toList, hcursz]
                    exact Nat.min_eq_left (Nat.mul_le_mul_right _ hle)
                  have hfo : (Builtin.firstCells i.size n (.slice (some a') n cap')).run P w.drew = .ok (cur.toList.take (n * i.size)).toArray w.drew := run_firstCells_some w.drew i.size n a' n cap' _ hol hcellOld
                  obtain ⟨ρ', v', w', hrun, h8, h9, h10⟩ := append_grows (ty := ty) (H := H.kill a.block) (hR.kill a.block) ht hu hi hz hzs hpos hb1 (some a') n cap' y' m _ cs _ xs holdsA hcs hol hcl hl hfo (hf w.drew (fun _ => rfl)) (by omega) hb
                  exact ⟨ρ', v', w', hrun, h8, h9, h10⟩
              · cases hs
          · rename_i hc0
            split at hs
            · rename_i hc1
              cases hlo : H.loadN a 0 (n * i.size) with
              | none => simp [hlo] at hs
              | some olds =>
                simp [hlo] at hs
                obtain ⟨rfl, rfl⟩ := hs
                have hcap := h7 hc1
                subst hcap
                obtain ⟨os, hos, hcell⟩ := hR.loadN hok hlo
                have hol : os.length = cap' * i.size := by rw [← hos.length, Heap.loadN_length hlo]
                have hfo : (Builtin.firstCells i.size cap' (.slice (some a') cap' cap')).run P w.drew = .ok os.toArray w.drew := by
                  by_cases hn0 : cap' = 0
                  · subst hn0
                    have : os = [] := List.eq_nil_of_length_eq_zero (by simpa using hol)
                    subst this
                    simp [Builtin.firstCells, loadCells, loadCellsFrom]
                  · have := hoff (by omega)
                    subst this
                    exact run_firstCells_some w.drew i.size cap' _ cap' cap' _ hol (fun j v hj => by simpa using hcell j v hj)
                exact append_grows (ty := ty) hR ht hu hi hz hzs hpos hb1 (some a') cap' cap' y' m os cs olds xs hos hcs hol hcl hl hfo (hf w.drew (fun _ => rfl)) (by omega) hb
            · cases hs
        · cases hs
    · cases hs
end
end Go.Ot
