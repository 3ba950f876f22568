/-
  Chapter 21: a map of numbers; a row copied within itself.
-/
import Derived.Test.YthclcdboialfnaaSeatC
namespace Go.Proofs.Ythclcdboialfnaa
open Go.Ot Go.RowKit
set_option linter.unusedSimpArgs false
set_option linter.unusedVariables false
theorem find_int (k : Int) : ∀ (es : List MEnt) (i : Nat), MapI es → mfind (.int .i64) (iv k) es i = some none ∨ ∃ j n, mfind (.int .i64) (iv k) es i = some (some (i + j, iv n)) ∧ j < es.length
  | [], i, _ => .inl rfl
  | e :: es, i, h => by
    obtain ⟨ke, ve, h1, h2⟩ := h e (by simp)
    have hs : Instr.sameNow (.int .i64) (iv k) e.key = some (k == ke) := by rw [h1]; rfl
    rw [mfind, hs]
    cases hk : (k == ke) with
    | true => exact .inr ⟨0, ve, by rw [h2]; rfl, by simp⟩
    | false =>
      rcases find_int k es (i + 1) (fun e he => h e (by simp [he])) with q | ⟨j, n, q, hj⟩
      · exact .inl q
      · exact .inr ⟨j + 1, n, by simp only [q]; rw [show i + 1 + j = i + (j + 1) by omega], by simp; omega⟩
theorem mapI_modify {es : List MEnt} (h : MapI es) (i : Nat) (k v : Int) : MapI (es.modify i fun e => { e with key := iv k, val := iv v }) := by
  intro e he
  obtain ⟨j, hj, rfl⟩ := List.mem_iff_getElem.1 he
  rw [List.getElem_modify]
  split
  · exact ⟨k, v, rfl, rfl⟩
  · exact h _ (List.getElem_mem _)
theorem map_get {H : Heap} {mb c : Nat} {es : List MEnt} (hB : ¬ mb < H.B) (hk : H.blk mb = some ⟨0, 0, mcells c es⟩) (h : MapI es) (k : Int) : ∃ n, sLookup H (.int .i64) (.int .i64 0) false (.map (some mb)) (iv k) = some (iv n) := by
  have hm := mapAt_of hB hk
  simp only [sLookup, keyOk, beq_self_eq_true, if_true, hm, Option.bind_some]
  rcases find_int k es 0 h with q | ⟨j, n, q, _⟩
  · exact ⟨0, by rw [q]; rfl⟩
  · exact ⟨n, by rw [q]; rfl⟩
theorem map_put {H : Heap} {mb c : Nat} {es : List MEnt} (hB : ¬ mb < H.B) (hk : H.blk mb = some ⟨0, 0, mcells c es⟩) (h : MapI es) (k v : Int) : ∃ c' es', sMapUpdate H (.int .i64) (.map (some mb)) (iv k) (iv v) = some (H.put mb (mcells c' es')) ∧ MapI es' := by
  have hm := mapAt_of hB hk
  have h1 : keyOk (.int .i64) (iv k) = true ∧ notTup (iv v) = true := ⟨rfl, rfl⟩
  simp only [sMapUpdate, if_pos h1, hm, Option.bind_some]
  rcases find_int k es 0 h with q | ⟨j, n, q, _⟩
  · refine ⟨c + 1, es ++ [⟨iv k, iv v, c⟩], by rw [q]; rfl, ?_⟩
    intro e he
    rw [List.mem_append, List.mem_singleton] at he
    rcases he with he | rfl
    · exact h e he
    · exact ⟨k, v, rfl, rfl⟩
  · exact ⟨c, _, by rw [q]; rfl, mapI_modify h _ k v⟩
theorem map_del {H : Heap} {mb c : Nat} {es : List MEnt} (hB : ¬ mb < H.B) (hk : H.blk mb = some ⟨0, 0, mcells c es⟩) (h : MapI es) (k : Int) : ∃ c' es', sDelete H (.int .i64) (.map (some mb)) (iv k) = some (H.put mb (mcells c' es')) ∧ MapI es' := by
  have hm := mapAt_of hB hk
  have h1 : keyOk (.int .i64) (iv k) = true := rfl
  simp only [sDelete, if_pos h1, hm, Option.bind_some]
  rcases find_int k es 0 h with q | ⟨j, n, q, _⟩
  · exact ⟨c, es, by rw [q]; rfl, h⟩
  · refine ⟨c, es.eraseIdx (0 + j), by rw [q]; rfl, fun e he => h e (List.mem_of_mem_eraseIdx he)⟩
/-- A row's end moved up by one. -/
theorem vr_copy {H : Heap} {b n i c1 c2 : Nat} {A : List Value} {B : List Value} {z : List Value} (v : Vr H b 65 2 (A ++ B ++ z)) (hA : A.length = i * 2) (hB : B.length = (n - i) * 2) (hz : z.length = 2) (hi : i ≤ n) :
    sCopy H 2 (.slice (some ⟨b, (i + 1) * 2, none⟩) (n - i) c1) (.slice (some ⟨b, i * 2, none⟩) (n + 1 - i) c2) = some (iv ((n - i : Nat) : Int), H.put b ((A ++ B ++ z).take ((i + 1) * 2) ++ B)) := by
  have src : srcCells H 2 (.slice (some ⟨b, i * 2, none⟩) (n + 1 - i) c2) = some (n + 1 - i, B ++ z) := by
    rw [srcCells_slice, loadN_at v.hq v.bq (by simp; omega) v.hn]
    simp only [Nat.add_zero, Option.map_some, Option.some.injEq, Prod.mk.injEq, true_and]
    rw [List.append_assoc, List.drop_left' hA, List.take_of_length_le (by simp; omega)]
  simp only [sCopy, src, Option.bind_some]
  have hmin : min (n + 1 - i) (n - i) = n - i := by omega
  rw [hmin, List.take_left' hB]
  rw [storeN_at v.hq v.bq (by simp; omega) v.hn]
  simp only [Nat.add_zero, Option.map_some, Option.some.injEq, Prod.mk.injEq, true_and]
  congr 1
  rw [List.drop_of_length_le (by simp; omega), List.append_nil]
end Go.Proofs.Ythclcdboialfnaa
