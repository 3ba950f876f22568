/-
  Part So: sort.Ints, out of the library's contract for it, whatever the program.
-/
import Derived.Test.YthclcdboialfnaaOtZn
import Derived.Shelf.Sort.Plain
set_option linter.unusedVariables false
set_option linter.unusedSimpArgs false
namespace Go.Ot
open Go.RowKit Go.Sort Go.Shelf Go.Proofs
def ile (x y : Int) : Bool := decide (x ≤ y)
theorem T_sortInts {P : Program} {r : Ren} (Ly : Lays.n191 P r) {H : Heap} {b c ety : Nat} {zs : List Int} {rest : List Value} (hB : ¬ b < H.B) (hk : H.blk b = some ⟨ety, 1, zs.map (fun n => .int .i64 n) ++ rest⟩)
    (hl0 : 0 < zs.length) (hl : zs.length < 4611686018427387904) :
    T P (r.f 191) [.slice (some ⟨b, 0, none⟩) zs.length c] H (.tuple #[]) (H.put b ((zs.mergeSort fun x y => decide (x ≤ y)).map (fun n => .int .i64 n) ++ rest)) := by
  refine ⟨rfl, Nat.le_refl _, fun hw => WF_put hw _ _, fun ρ w args' hR hargs => ?_⟩
  cases hargs with
  | cons hy hrest =>
    cases hrest
    rename_i y
    obtain ⟨hok, a', cap', rfl, hn, ha, _, _⟩ := hy
    have hB' : ¬ b < (H.cx ρ).B := hB
    have hadd : (H.cx ρ).addr ⟨b, 0, none⟩ = ⟨(ρ b).1, 0, none⟩ := by simp only [Cx.addr, if_neg hB']; rfl
    have ha' := ha hl0
    rw [hadd] at ha'
    subst ha'
    obtain ⟨h1, h2, h3, cur, fz, h4, h5, h6, h7⟩ := hR.row b _ hk (Nat.succ_pos 0)
    have hlen := h7.length
    simp only [List.length_append, List.length_map, List.length_take, Array.length_toList] at hlen
    have hcell : ∀ j (hj : j < zs.length), cur[j]? = some (.int .i64 zs[j]) := by
      intro j hj
      have hg : (zs.map (fun n => (.int .i64 n : Value)) ++ rest)[j]? = some (.int .i64 zs[j]) := by
        rw [List.getElem?_append_left (by simpa using hj)]
        simp [hj]
      obtain ⟨v', hv', hr⟩ := h7.get hg
      have : v' = .int .i64 zs[j] := hr
      subst this
      rw [List.getElem?_take] at hv'
      split at hv'
      · simpa using hv'
      · cases hv'
    have hsz : zs.length ≤ cur.size := by omega
    have hblk : (ρ b).1 < w.heap.size := (Array.getElem?_eq_some_iff.1 h4).1
    have hH : Holds (Value.int .i64) w (ρ b).1 0 zs.toArray := by
      intro j hj
      have hj' : j < zs.length := by simpa using hj
      refine ⟨?_, ?_⟩
      · rw [cell_of_row _ _ _ _ _ _ h4]
        rw [Nat.zero_add, hcell j hj']
        simp [hj']
      · have := h5.no (0 + j) (by omega)
        obtain ⟨f1, f2⟩ := fz
        simp only [World.frozen?, h4]
        simp only [Bool.and_eq_false_iff, decide_eq_false_iff_not]
        by_cases hx : f1 ≤ 0 + j
        · exact .inr (fun hy => this ⟨hx, hy⟩)
        · exact .inl hx
    refine (Any.sort_Ints Ly (ρ b).1 0 cap' zs w hH hblk hl).mono ?_
    rintro e w' ⟨rfl, n, os, rfl⟩
    obtain ⟨ss, hss⟩ : ∃ ss, ss = zs.mergeSort fun x y => decide (x ≤ y) := ⟨_, rfl⟩
    have hsl : ss.length = zs.length := by rw [hss]; simp
    rw [← hss]
    refine ⟨ρ, .tuple #[], rfl, le_same H ρ rfl (Nat.le_refl _), ⟨#[], rfl, .nil⟩, ?_⟩
    have hself : (grow (putRow (Value.int .i64) (Sort.ahead w n) (ρ b).1 0 ss.toArray) os).heap[(ρ b).1]? = some (.cells (putCells (Value.int .i64) 0 ss.toArray cur) ety fz) := by
      show ((w.heap.modify (ρ b).1 (onCells (putCells (Value.int .i64) 0 ss.toArray))) ++ os)[(ρ b).1]? = _
      rw [Array.getElem?_append_left (by simpa using hblk), Array.getElem?_modify, if_pos rfl, h4]
      rfl
    have hoth : ∀ g, g ≠ (ρ b).1 → g < w.heap.size → (grow (putRow (Value.int .i64) (Sort.ahead w n) (ρ b).1 0 ss.toArray) os).heap[g]? = w.heap[g]? := by
      intro g hg hgs
      show ((w.heap.modify (ρ b).1 (onCells (putCells (Value.int .i64) 0 ss.toArray))) ++ os)[g]? = _
      rw [Array.getElem?_append_left (by simpa using hgs), Array.getElem?_modify, if_neg (fun e => hg e.symm)]
    have hpsz : (putCells (Value.int .i64) 0 ss.toArray cur).size = cur.size := by simp [putCells]
    refine hR.putRow hk _ ?_ ?_ hoth
    · refine hR.below.trans ⟨rfl, rfl, rfl, ?_, fun g hg => ?_⟩
      · show w.heap.size ≤ ((w.heap.modify (ρ b).1 (onCells (putCells (Value.int .i64) 0 ss.toArray))) ++ os).size
        simp
      · have := hR.far hk
        exact hoth g (by omega) (by omega)
    · rw [if_pos (Nat.succ_pos 0)]
      refine ⟨h1, h2, h3, _, fz, hself, by rw [hpsz]; exact h5, by rw [hpsz]; exact h6, ?_⟩
      refine All2.of_get ?_ ?_
      · simp only [List.length_append, List.length_map, hsl, List.length_take, Array.length_toList, hpsz]
        omega
      · intro j u u' hu hu'
        have hput : ∀ k, (putCells (Value.int .i64) 0 ss.toArray cur)[k]? = (cur[k]?).map fun x => if k < ss.length then .int .i64 ss[k]! else x := by
          intro k
          simp only [putCells, Array.getElem?_mapIdx]
          cases cur[k]? with
          | none => rfl
          | some x => simp
        rw [List.getElem?_take] at hu'
        split at hu'
        · rename_i hj
          rw [Array.getElem?_toList, hput] at hu'
          by_cases hjs : j < ss.length
          · rw [List.getElem?_append_left (by simpa using hjs)] at hu
            simp only [List.getElem?_map, List.getElem?_eq_getElem hjs, Option.map_some, Option.some.injEq] at hu
            subst hu
            rw [hcell j (by omega)] at hu'
            simp only [Option.map_some, if_pos hjs, Option.some.injEq] at hu'
            subst hu'
            show _ = _
            rw [getElem!_pos ss j hjs]
          · rw [List.getElem?_append_right (by simpa using hjs)] at hu
            simp only [List.length_map] at hu
            have h8 : (zs.map (fun n => (.int .i64 n : Value)) ++ rest)[j]? = some u := by
              rw [List.getElem?_append_right (by simp; omega)]
              simp only [List.length_map]
              rw [← hsl]; exact hu
            obtain ⟨v', hv', hr⟩ := h7.get h8
            rw [List.getElem?_take] at hv'
            split at hv'
            · rw [Array.getElem?_toList] at hv'
              rw [hv'] at hu'
              simp only [Option.map_some, if_neg hjs, Option.some.injEq] at hu'
              subst hu'
              exact hr
            · cases hv'
        · cases hu'
end Go.Ot
