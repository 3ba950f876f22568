/-
  Chapter 23: edges in order; where one stands.
-/
import Derived.Test.YtadegahkgpedgaaSeatA
import Derived.Test.YtadegahkgpedgaaOtZa
import Derived.ChangeKeysEq
import Derived.Laws.StructEq
namespace Go.Proofs.Ytadegahkgpedgaa
open Go.Ot Go.RowKit
set_option linter.unusedSimpArgs false
set_option linter.unusedVariables false
abbrev iv (n : Int) : Value := .int .i64 n
abbrev ptr (p : Nat) : Value := .pointer (some ⟨p, 0, none⟩)
abbrev sl (b n : Nat) : Value := .slice (some ⟨b, 0, none⟩) n 0
/-- An edge: a reader and a writer. -/
abbrev Ed := Int × Int
def edv (e : Ed) : List Value := [iv e.1, iv e.2]
def befB (e f : Ed) : Bool := decide (e.2 < f.2) || (decide (e.2 = f.2) && decide (e.1 < f.1))
theorem before_T {H : Heap} (hw : H.WF) (e f : Ed) : T Try.prog 33 [.agg (edv e).toArray, .agg (edv f).toArray] H (.bool (befB e f)) H := by
  refine T_seen hm light33 rfl ?_
  have hc : ∀ e : Ed, (Value.agg (edv e).toArray).cells.toList = edv e := fun _ => rfl
  obtain ⟨HA, hHA⟩ : ∃ HA, HA = H.new 46 2 (edv e) := ⟨_, rfl⟩
  have hwA : HA.WF := by rw [hHA]; exact WF_new hw _ _ _
  have nA : HA.next = H.next + 1 := by rw [hHA]; simp
  obtain ⟨HB, hHB⟩ : ∃ HB, HB = HA.new 46 2 (edv f) := ⟨_, rfl⟩
  have hnB := hw.next_ge
  have hBA : HA.B = H.B := by rw [hHA]; rfl
  have a1 : HB.load ⟨H.next, 0, none⟩ = some (iv e.1) := by
    rw [hHB]; exact load_newN hwA (by rw [hHA, new_load hw 46 2 (edv e)]; rfl) _ _ _
  have a2 : HB.load ⟨H.next, 1, none⟩ = some (iv e.2) := by
    rw [hHB]; exact load_newN hwA (by rw [hHA, new_load hw 46 2 (edv e)]; rfl) _ _ _
  have b1 : HB.load ⟨HA.next, 0, none⟩ = some (iv f.1) := by rw [hHB, new_load hwA 46 2 (edv f)]; rfl
  have b2 : HB.load ⟨HA.next, 1, none⟩ = some (iv f.2) := by rw [hHB, new_load hwA 46 2 (edv f)]; rfl
  have keep : ∀ b, b < H.next → HB.blk b = H.blk b := by
    intro b hb
    rw [hHB, hHA]
    have m1 : b ≠ H.next := by omega
    have m2 : b ≠ H.next + 1 := by omega
    simp [m1, m2]
  simp [L33, hc, ← hHA, ← hHB]
  by_cases h1 : e.2 < f.2
  · simp [a1, a2, b1, b2, h1]
    exact ⟨rfl, rfl, by simp [befB, h1], keep⟩
  by_cases h2 : e.2 = f.2
  · have hb : (e.2 == f.2) = true := by simpa using h2
    simp [a1, a2, b1, b2, h1, hb]
    exact ⟨rfl, rfl, by simp [befB, h2], keep⟩
  · have hb : (e.2 == f.2) = false := by simpa using h2
    simp [a1, a2, b1, b2, h1, hb]
    exact ⟨rfl, rfl, by simp [befB, h1, h2], keep⟩
theorem stepG (w : World) {xs ys : Array Value} {f : Field} {fs : List Field} {n m : Int} (hn : f.name ≠ "_") (hk : Try.prog.plainKey f.type = true) (hu : Try.prog.underlying f.type = some (.int .i64)) (hx : xs[f.offset]? = some (iv n)) (hy : ys[f.offset]? = some (iv m)) :
    (Op.eqFields 9999 xs ys (f :: fs)).run Try.prog w = if n = m then (Op.eqFields 9999 xs ys fs).run Try.prog w else .ok false w := by
  simp only [Op.eqFields]
  rw [if_pos hn]
  simp only [Sem.run_bind, run_part_plain w hk hx, run_part_plain w hk hy, Result.andThen_ok, run_equalIn_int w 9998 f.type .i64 .i64 _ _ hu]
  by_cases h : n = m
  · simp [h]
  · simp [h]
set_option maxRecDepth 100000 in
theorem eqE (e f : Ed) (w : World) : (Op.equal 46 (.agg (edv e).toArray) (.agg (edv f).toArray)).run Try.prog w = .ok (decide (e = f)) w := by
  have hd : Op.equal 46 (.agg (edv e).toArray) (.agg (edv f).toArray) = Op.equalIn (9999 + 1) 46 (.agg (edv e).toArray) (.agg (edv f).toArray) := rfl
  have hf : Try.prog.fieldsOf 46 = #[{ name := "Reader", type := 3, offset := 0, embedded := false, tag := "", pkgPath := "", byteOffset := 0 },
        { name := "Writer", type := 3, offset := 1, embedded := false, tag := "", pkgPath := "", byteOffset := 8 }] := by
    unfold Program.fieldsOf
    rw [Try.underlying46]
  have k3 : Try.prog.plainKey 3 = true := by kernel_rfl
  rw [hd, run_equalIn_struct w 9999 46 _ _ (by rw [hf]; exact Try.underlying46) (by kernel_rfl), hf]
  rw [stepG (n := e.1) (m := f.1) w (by decide) k3 Try.underlying3 rfl rfl, stepG (n := e.2) (m := f.2) w (by decide) k3 Try.underlying3 rfl rfl]
  obtain ⟨a, b⟩ := e
  obtain ⟨c, d⟩ := f
  by_cases h1 : a = c <;> by_cases h2 : b = d <;> simp [h1, h2, Op.eqFields] <;> rfl
end Go.Proofs.Ytadegahkgpedgaa
