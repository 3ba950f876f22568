/-
  The reader: what its functions do, for every heap in which a reader stands.
-/
import Derived.Test.YtpcgganldmmpoaaSeatJ
namespace Go.Proofs.Ytpcgganldmmpoaa
open Go.Ot
set_option linter.unusedSimpArgs false
set_option linter.unusedVariables false
/-- At p stands a reader of these bytes, at this place, with this error (0: none). -/
structure RD (H : Heap) (p : Nat) (x : Value) (b : List Nat) (at' fail : Nat) : Prop where
  hp : ¬ p < H.B
  bp : H.blk p = some ⟨75, 3, [x, .int .i64 (at' : Int), .int .i64 (fail : Int)]⟩
  bs : Bs H x b
  px : blkOf x ≠ some p
  le : at' ≤ b.length
  lt : ∀ c ∈ b, c < 256
  small : b.length ≤ 140737488355328
abbrev rdC (x : Value) (at' fail : Nat) : List Value := [x, .int .i64 (at' : Int), .int .i64 (fail : Int)]
theorem Bs.put {H : Heap} {x : Value} {l : List Nat} (h : Bs H x l) {p : Nat} (cs : List Value) (hx : blkOf x ≠ some p) : Bs (H.put p cs) x l := by
  rcases h with h | ⟨b, off, c, rfl, h⟩
  · exact .inl h
  · refine .inr ⟨b, off, c, rfl, fun i hi => ?_⟩
    have hb : b ≠ p := fun e => hx (by rw [e]; rfl)
    rw [load_put, if_neg hb]
    split <;> exact h i hi
theorem RD.step {H : Heap} {p : Nat} {x : Value} {b : List Nat} {at' fail : Nat} (h : RD H p x b at' fail) (at2 fail2 : Nat) (hle : at2 ≤ b.length) : RD (H.put p (rdC x at2 fail2)) p x b at2 fail2 :=
  ⟨by simpa using h.hp, by simp [h.bp], h.bs.put _ h.px, h.px, hle, h.lt, h.small⟩
theorem RD.same {H : Heap} {p : Nat} {x : Value} {b : List Nat} {at' fail : Nat} (h : RD H p x b at' fail) : H.put p (rdC x at' fail) = H := put_self h.bp
theorem left_T {H : Heap} {p : Nat} {x : Value} {b : List Nat} {at' fail : Nat} (h : RD H p x b at' fail) :
    T Try.prog 25 [ptr p] H (.int .i64 ((if fail = 0 then b.length - at' else 0 : Nat) : Int)) H := by
  refine T_eq hm light25 ?_
  have l0 := fun off => load_at (off := off) h.hp h.bp
  obtain ⟨a, c, hx⟩ := h.bs.len
  have hle := h.le
  have hsm := h.small
  have e1 : IntKind.i64.wrap ((b.length : Int) - (at' : Int)) = ((b.length - at' : Nat) : Int) := by rw [w64 _ (by omega)]; omega
  subst hx
  by_cases hf : fail = 0
  · subst hf; simp [L25, l0, e1]
  · have hf2 : ((fail : Int) != 0) = true := bne_iff_ne.2 (by omega)
    simp [L25, l0, hf, hf2]
theorem fail_T {H : Heap} {p : Nat} {x : Value} {b : List Nat} {at' fail : Nat} (h : RD H p x b at' fail) : T Try.prog 26 [ptr p] H (.int .i64 (fail : Int)) H := by
  refine T_eq hm light26 ?_
  have l0 := fun off => load_at (off := off) h.hp h.bp
  simp [L26, l0]
theorem stop_T {H : Heap} {p : Nat} {x : Value} {b : List Nat} {at' fail : Nat} (h : RD H p x b at' fail) (e : Nat) :
    ∃ v, T Try.prog 48 [ptr p, .int .i64 (e : Int)] H v (H.put p (rdC x at' (if fail = 0 then e else fail))) := by
  have l0 := fun off => load_at (off := off) h.hp h.bp
  have s0 := fun off v => store_own (off := off) (v := v) h.hp h.bp
  have hs := h.same
  refine ⟨.tuple #[], T_eq hm light48 ?_⟩
  by_cases hf : fail = 0
  · subst hf; simp [L48, l0, s0, packV]
  · have hf2 : ((fail : Int) == 0) = false := by simp; omega
    simp [L48, l0, s0, hf, hf2, packV]
    exact hs.symm
def nx (b : List Nat) (at' fail : Nat) : Nat × Nat × Nat := if fail ≠ 0 then (0, at', fail) else if at' = b.length then (0, at', 20) else (b.getD at' 0, at' + 1, 0)
theorem next_T {H : Heap} {p : Nat} {x : Value} {b : List Nat} {at' fail : Nat} (h : RD H p x b at' fail) :
    T Try.prog 47 [ptr p] H (.int .u8 ((nx b at' fail).1 : Int)) (H.put p (rdC x (nx b at' fail).2.1 (nx b at' fail).2.2)) := by
  have l0 := fun off => load_at (off := off) h.hp h.bp
  have s0 := fun off v => store_own (off := off) (v := v) h.hp h.bp
  have hs := h.same
  obtain ⟨a, c, hx⟩ := h.bs.len
  have hle := h.le
  have hsm := h.small
  refine T_eq hm light47 ?_
  by_cases hf : fail = 0
  · subst hf
    by_cases ha : at' = b.length
    · subst ha
      obtain ⟨v, T1⟩ := stop_T h 20
      have h2 := h.step b.length 20 (Nat.le_refl _)
      have l2 := fun off => load_at (off := off) h2.hp h2.bp
      have e : nx b b.length 0 = (0, b.length, 20) := by simp [nx]
      rw [e]
      simp only [if_true] at T1
      subst hx
      simp [L47, l0]
      refine goT_of T1 ?_
      simp [l2]
    · have hlt : at' < b.length := by omega
      have hlt' : (at' : Int) < b.length := by omega
      have hai : ((at' : Int) == (b.length : Int)) = false := by simp; omega
      have e : nx b at' 0 = (b[at'], at' + 1, 0) := by simp [nx, ha, List.getD, hlt]
      have h2 := h.step (at' + 1) 0 (by omega)
      have l2 := fun off => load_at (off := off) h2.hp h2.bp
      have e1 : IntKind.i64.wrap ((at' : Int) + 1) = ((at' + 1 : Nat) : Int) := by rw [w64 _ (by omega)]; omega
      have e2 : IntKind.i64.wrap (((at' + 1 : Nat) : Int) - 1) = (at' : Int) := by rw [w64 _ (by omega)]; omega
      obtain ⟨bb, off, c', hx2, hld⟩ := h2.bs.at hlt
      rw [e]
      subst hx2
      obtain ⟨q, hq⟩ : ∃ q, q = at' + 1 := ⟨_, rfl⟩
      rw [← hq] at e1 e2 l2 h2 hld ⊢
      have l2' : ∀ o, (H.put p [.slice (some ⟨bb, off, none⟩) b.length c', .int .i64 (q : Int), .int .i64 0]).load ⟨p, o, none⟩ = [Value.slice (some ⟨bb, off, none⟩) b.length c', .int .i64 (q : Int), .int .i64 0][o]? := l2
      have hld' : (H.put p [.slice (some ⟨bb, off, none⟩) b.length c', .int .i64 (q : Int), .int .i64 0]).load ⟨bb, off + at', none⟩ = some (.int .u8 ((b[at'] : Nat) : Int)) := hld
      simp [L47, l0, hai, ha, s0, e1, l2', e2, hlt', hld']
      rfl
  · have e : nx b at' fail = (0, at', fail) := by simp [nx, hf]
    have hf2 : ((fail : Int) == 0) = false := by simp; omega
    have hf3 : ((fail : Int) != 0) = true := bne_iff_ne.2 (by omega)
    rw [e, hs]
    simp [L47, l0, hf, hf2, hf3]
end Go.Proofs.Ytpcgganldmmpoaa
