/-
  Chapter 8: two texts compared.
-/
import Derived.Test.YtkocomnfomjfiaaSeatAA
import Derived.ChangeKeysEq
import Derived.Laws.StructEq
namespace Go.Proofs.Ytkocomnfomjfiaa
open Go.Ot Go.RowKit
set_option linter.unusedSimpArgs false
set_option linter.unusedVariables false
theorem stepF (w : World) {xs ys : Array Value} {f : Field} {fs : List Field} {n : Int} (hn : f.name ≠ "_") (hk : Try.prog.plainKey f.type = true) (hu : Try.prog.underlying f.type = some (.int .i64)) (hx : xs[f.offset]? = some (iv n)) (hy : ys[f.offset]? = some (iv n)) :
    (Op.eqFields 9999 xs ys (f :: fs)).run Try.prog w = (Op.eqFields 9999 xs ys fs).run Try.prog w := by
  simp only [Op.eqFields]
  rw [if_pos hn]
  simp only [Sem.run_bind, run_part_plain w hk hx, run_part_plain w hk hy, Result.andThen_ok, run_equalIn_int w 9998 f.type .i64 .i64 _ _ hu]
  simp
set_option maxRecDepth 100000 in
theorem eqI (x : In) (w : World) : (Op.equal 25 (.agg (rowI x).toArray) (.agg (rowI x).toArray)).run Try.prog w = .ok true w := by
  have hd : Op.equal 25 (.agg (rowI x).toArray) (.agg (rowI x).toArray) = Op.equalIn (9999 + 1) 25 (.agg (rowI x).toArray) (.agg (rowI x).toArray) := rfl
  have hf : Try.prog.fieldsOf 25 = #[{ name := "Kind", type := 22, offset := 0, embedded := false, tag := "", pkgPath := "", byteOffset := 0 },
        { name := "Op", type := 23, offset := 1, embedded := false, tag := "", pkgPath := "", byteOffset := 8 },
        { name := "A", type := 3, offset := 2, embedded := false, tag := "", pkgPath := "", byteOffset := 16 },
        { name := "B", type := 3, offset := 3, embedded := false, tag := "", pkgPath := "", byteOffset := 24 },
        { name := "C", type := 3, offset := 4, embedded := false, tag := "", pkgPath := "", byteOffset := 32 },
        { name := "K", type := 2, offset := 5, embedded := false, tag := "", pkgPath := "", byteOffset := 40 }] := by
    unfold Program.fieldsOf
    rw [Try.underlying25]
  have k22 : Try.prog.plainKey 22 = true := by kernel_rfl
  have k23 : Try.prog.plainKey 23 = true := by kernel_rfl
  have k3 : Try.prog.plainKey 3 = true := by kernel_rfl
  have k2 : Try.prog.plainKey 2 = true := by kernel_rfl
  rw [hd, run_equalIn_struct w 9999 25 _ _ (by rw [hf]; exact Try.underlying25) (by kernel_rfl), hf]
  rw [stepF (n := x.kind) w (by decide) k22 Try.underlying22 rfl rfl, stepF (n := x.op) w (by decide) k23 Try.underlying23 rfl rfl, stepF (n := x.a) w (by decide) k3 Try.underlying3 rfl rfl,
    stepF (n := x.b) w (by decide) k3 Try.underlying3 rfl rfl, stepF (n := x.c) w (by decide) k3 Try.underlying3 rfl rfl, stepF (n := x.k) w (by decide) k2 Try.underlying2 rfl rfl]
  rfl
theorem plainI (x : In) : (rowI x).toArray.toList.all plain1 = true := rfl
def InvS1 (H : Heap) (x y : Value) (l : List In) (k : Nat) (t : Tm) (H1 : Heap) : Prop :=
  ∃ j : Nat, j + k = l.length ∧ t 0 = x ∧ t 1 = y ∧ t 5 = iv j ∧ H1 = H
theorem sameR_T {H : Heap} {x y : Value} {l : List In} (hx : Rws H 6 x (l.map rowI)) (hy : Rws H 6 y (l.map rowI)) (hl : l.length ≤ 1000000) : T Try.prog 24 [x, y] H (.bool true) H := by
  refine T_eq hm light24 ?_
  obtain ⟨a2, c2, hv2⟩ := hx.len
  obtain ⟨a3, c3, hv3⟩ := hy.len
  rw [List.length_map] at hv2 hv3
  simp [L24, hv2, hv3]
  rw [← hv2, ← hv3]
  refine loop_at (InvS1 H x y l) l.length ?_ ?_
  · exact ⟨0, by omega, by simp [hv2], by simp [hv3], by simp, rfl⟩
  · rintro k t H1 ⟨j, hjk, t0, t1, t5, rfl⟩
    cases k with
    | zero =>
      have ej : j = l.length := by omega
      subst ej
      rw [hv2] at t0
      simp [L24_1, t0, t1, t5]
    | succ k =>
      have hj : j < l.length := by omega
      obtain ⟨b, off, c, hx2, _, ld2, _⟩ := hx.at (i := j) (by simpa using hj)
      obtain ⟨b', off', c', hx3, _, ld3, _⟩ := hy.at (i := j) (by simpa using hj)
      simp only [List.getElem_map, List.length_map] at hx2 ld2 hx3 ld3
      obtain ⟨q, hq⟩ : ∃ q, q = l[j] := ⟨_, rfl⟩
      rw [← hq] at ld2 ld3
      have e4 : IntKind.i64.wrap ((j : Int) + 1) = ((j + 1 : Nat) : Int) := by rw [w64 _ (by omega)]; omega
      obtain ⟨j1, hj1⟩ : ∃ j1, j1 = j + 1 := ⟨_, rfl⟩
      rw [← hj1] at e4
      have t0' := t0
      have t1' := t1
      rw [hx2] at t0'
      rw [hx3] at t1'
      simp [L24_1, t0', t1', t5, hj, ld2, ld3]
      refine goE_of (plainI q) (plainI q) (eqI q) ?_
      simp [t5, e4]
      exact ⟨k, Nat.lt_succ_self k, j1, by omega, by simp [t0], by simp [t1], by simp, rfl⟩
def InvS2 (H : Heap) (x y : Value) (l : List In) (k : Nat) (t : Tm) (H1 : Heap) : Prop :=
  ∃ j : Nat, j + k = l.length ∧ t 1 = y ∧ t 12 = x ∧ t 13 = iv (l.length : Nat) ∧ t 14 = iv j ∧ H1.base = H.base ∧ H.next ≤ H1.next ∧ H1.WF ∧ Same H H1 []
theorem sameI_T {H : Heap} (hw : H.WF) {x y : Value} {l : List In} (hx : Rws H 6 x (l.map rowI)) (hy : Rws H 6 y (l.map rowI)) (hl : l.length ≤ 1000000) : ∃ v H', T Try.prog 25 [x, y] H v H' ∧ v = .bool true ∧ Same H H' [] := by
  refine T_by hm light25 ?_
  obtain ⟨a2, c2, hv2⟩ := hx.len
  obtain ⟨a3, c3, hv3⟩ := hy.len
  rw [List.length_map] at hv2 hv3
  simp [L25, hv2, hv3]
  rw [← hv2, ← hv3]
  refine loop_at (InvS2 H x y l) l.length ?_ ?_
  · exact ⟨0, by omega, by simp [hv3], by simp [hv2], by simp, by simp, rfl, Nat.le_refl _, hw, Same.refl _ _⟩
  · rintro k t H1 ⟨j, hjk, t1, t12, t13, t14, b1, n1, w1, s1⟩
    cases k with
    | zero =>
      have ej : j = l.length := by omega
      subst ej
      simp [L25_1, t13, t14]
      exact s1
    | succ k =>
      have hj : j < l.length := by omega
      have k1 : ∀ b, b < H.next → H1.blk b = H.blk b := fun b hb => s1 b hb (by simp)
      obtain ⟨b, off, c, hx2, _, ld2, _⟩ := (hx.keep hw b1 k1).at (i := j) (by simpa using hj)
      simp only [List.getElem_map, List.length_map] at hx2 ld2
      obtain ⟨q, hq⟩ : ∃ q, q = l[j] := ⟨_, rfl⟩
      rw [← hq] at ld2
      have st := new_storeA w1 25 6 [.int .i64 0, .int .i64 0, .int .i64 0, .int .i64 0, .int .i64 0, .int .i64 0] (rowI q) rfl rfl (by decide)
      have lo := new_loadA w1 25 6 (rowI q) rfl
      obtain ⟨H2, hH2⟩ : ∃ H2, H2 = H1.new 25 6 (rowI q) := ⟨_, rfl⟩
      have w2 : H2.WF := by rw [hH2]; exact WF_new w1 _ _ _
      have b2 : H2.base = H.base := by rw [hH2]; exact b1
      have n2 : H.next ≤ H2.next := by rw [hH2]; simp; omega
      have k2 : ∀ b, b < H.next → H2.blk b = H.blk b := fun b hb => by rw [hH2]; simp [show b ≠ H1.next by omega]; exact k1 b hb
      rw [← hH2] at st lo
      obtain ⟨b', off', c', hx3, _, ld3, _⟩ := (hy.keep hw b2 k2).at (i := j) (by simpa using hj)
      simp only [List.getElem_map, List.length_map] at hx3 ld3
      rw [← hq] at ld3
      have e4 : IntKind.i64.wrap ((j : Int) + 1) = ((j + 1 : Nat) : Int) := by rw [w64 _ (by omega)]; omega
      obtain ⟨j1, hj1⟩ : ∃ j1, j1 = j + 1 := ⟨_, rfl⟩
      rw [← hj1] at e4
      have t12' := t12
      have t1' := t1
      rw [hx2] at t12'
      rw [hx3] at t1'
      simp [L25_1, t12', t1', t13, t14, hj, ld2, st, lo, ld3]
      refine goE_of (plainI q) (plainI q) (eqI q) ?_
      simp [t14, e4]
      exact ⟨k, Nat.lt_succ_self k, j1, by omega, by simp [t1], by simp [t12], by simp [t13], by simp, b2, n2, w2, fun b hb _ => k2 b hb⟩
end Go.Proofs.Ytkocomnfomjfiaa
