/-
  Part T: how light code is reckoned by rewriting; heaps that are well formed; contracts of functions that change nothing.
-/
import Derived.Test.YtnomffikflfilaaGreatOtS
set_option linter.unusedVariables false
set_option linter.unusedSimpArgs false
namespace Go.Ot
open Go.RowKit
theorem Rep.wf {H : Heap} {ρ : Nat → Nat × Nat} {w : World} (h : Rep H ρ w) : H.WF := ⟨h.next, fun b k hk => ⟨(h.live _ _ hk).1, (h.live _ _ hk).2⟩⟩
@[simp] theorem base_new (H : Heap) (ty sz : Nat) (cs : List Value) : (H.new ty sz cs).base = H.base := rfl
@[simp] theorem B_new (H : Heap) (ty sz : Nat) (cs : List Value) : (H.new ty sz cs).B = H.B := rfl
@[simp] theorem next_new (H : Heap) (ty sz : Nat) (cs : List Value) : (H.new ty sz cs).next = H.next + 1 := rfl
@[simp] theorem base_put (H : Heap) (b : Nat) (cs : List Value) : (H.put b cs).base = H.base := rfl
@[simp] theorem B_put (H : Heap) (b : Nat) (cs : List Value) : (H.put b cs).B = H.B := rfl
@[simp] theorem next_put (H : Heap) (b : Nat) (cs : List Value) : (H.put b cs).next = H.next := rfl
@[simp] theorem base_kill (H : Heap) (b : Nat) : (H.kill b).base = H.base := rfl
@[simp] theorem B_kill (H : Heap) (b : Nat) : (H.kill b).B = H.B := rfl
@[simp] theorem next_kill (H : Heap) (b : Nat) : (H.kill b).next = H.next := rfl
theorem blk_new (H : Heap) (ty sz : Nat) (cs : List Value) (b : Nat) : (H.new ty sz cs).blk b = if b = H.next then some ⟨ty, sz, cs⟩ else H.blk b := rfl
theorem blk_kill (H : Heap) (b c : Nat) : (H.kill b).blk c = if c = b then none else H.blk c := rfl
theorem blk_put (H : Heap) (b : Nat) (cs : List Value) (c : Nat) : (H.put b cs).blk c = if c = b then (H.blk b).map (fun k => { k with cells := cs }) else H.blk c := rfl
theorem load_own {H : Heap} {b off : Nat} {k : Blk} (hB : ¬ b < H.B) (hk : H.blk b = some k) (hz : 0 < k.sz := by first | exact Nat.succ_pos _ | assumption | (simp; done) | (simp; omega)) : H.load ⟨b, off, none⟩ = k.cells[off]? := by
  simp [Heap.load, hB, hk, hz]
theorem store_own {H : Heap} {b off : Nat} {k : Blk} {v : Value} (hB : ¬ b < H.B) (hk : H.blk b = some k) (hz : 0 < k.sz := by first | exact Nat.succ_pos _ | assumption | (simp; done) | (simp; omega)) : H.store ⟨b, off, none⟩ v = if off < k.cells.length then some (H.put b (k.cells.set off v)) else none := by
  simp [Heap.store, hB, hk, hz]
theorem WF_new {H : Heap} (h : H.WF) (ty sz : Nat) (cs : List Value) : (H.new ty sz cs).WF :=
  ⟨by simp; have := h.next; omega, fun b k hk => by
    rw [blk_new] at hk
    split at hk
    · rename_i e; cases hk; subst e; exact ⟨h.next, by simp⟩
    · obtain ⟨h1, h2⟩ := h.live b k hk; exact ⟨h1, by simp; omega⟩⟩
theorem WF_put {H : Heap} (h : H.WF) (b : Nat) (cs : List Value) : (H.put b cs).WF :=
  ⟨h.next, fun c k hk => by
    rw [blk_put] at hk
    split at hk
    · rename_i e; subst e
      cases hb : H.blk c with
      | none => simp [hb] at hk
      | some k0 => exact h.live c k0 hb
    · exact h.live c k hk⟩
theorem WF_kill {H : Heap} (h : H.WF) (b : Nat) : (H.kill b).WF :=
  ⟨h.next, fun c k hk => by
    rw [blk_kill] at hk
    split at hk
    · cases hk
    · exact h.live c k hk⟩
theorem add_own (b off k : Nat) : (⟨b, off, none⟩ : Addr).add k = ⟨b, off + k, none⟩ := by unfold Addr.add; split <;> simp_all
def isCall : LOp → Bool
  | .call _ _ | .callv _ _ | .invoke _ _ _ | .eqR _ _ _ _ => true
  | _ => false
theorem pure_same {H H' : Heap} {t : Tm} {op : LOp} {v : Value} (hp : isPure op = true) (h : step H t op = some (v, H')) : H' = H := by
  cases op <;> simp only [isPure] at hp <;> (try (cases hp; done)) <;> simp only [step] at h <;> (try exact map_pair (f := id) h)
  case move => cases h; rfl
  case pick => split at h <;> first | (cases h; rfl) | cases h
  case build z ps => cases hf : fillA z (evParts t ps) <;> simp [hf] at h; exact h.2.symm
  case isNil => split at h <;> first | exact map_pair h | cases h
  case eqB => split at h <;> first | (cases h; rfl) | cases h
  case func => split at h <;> first | (cases h; rfl) | cases h
  case lenS => split at h <;> first | (cases h; rfl) | cases h
  case len => split at h <;> first | (cases h; rfl) | cases h
  case lenK => cases h; rfl
  case minmax => split at h <;> first | exact map_pair (f := id) h | cases h
  case eqR => cases h
end Go.Ot
