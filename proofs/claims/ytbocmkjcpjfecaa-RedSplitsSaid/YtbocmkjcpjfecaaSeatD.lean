/-
  Chapter 14: the example of the chapter.
-/
import Derived.Test.YtbocmkjcpjfecaaSeatC
namespace Go.Proofs.Ytbocmkjcpjfecaa
open Go.Ot
set_option linter.unusedSimpArgs false
set_option linter.unusedVariables false
theorem alive_T {H : Heap} (hw : H.WF) : ∃ v H', T Try.prog 13 [] H v H' ∧ v = .bool true := by
  refine T_by hm light13 ?_
  have hnB := hw.next_ge
  obtain ⟨H1, hH1⟩ : ∃ H1, H1 = H.new 43 2 [iv 1, iv 0, iv 4, iv 0] := ⟨_, rfl⟩
  have w1 : H1.WF := by rw [hH1]; exact WF_new hw _ _ _
  have r1 : Twos H1 (.slice (some ⟨H.next, 0, none⟩) 2 0) [(1, 0), (4, 0)] := by
    refine .inr ⟨H.next, 0, 0, rfl, fun i hi => ?_⟩
    have hk : H1.blk H.next = some ⟨43, 2, [iv 1, iv 0, iv 4, iv 0]⟩ := by rw [hH1]; simp
    have hB : ¬ H.next < H1.B := by rw [hH1]; simpa using hnB
    rw [load_at hB hk, load_at hB hk]
    match i, hi with
    | 0, _ => exact ⟨rfl, rfl⟩
    | 1, _ => exact ⟨rfl, rfl⟩
  obtain ⟨v2, H2, T2, w2, b2, n2, k2, q2⟩ := new_T w1 r1
  have e2 : NewQ H1 [(1, 0), (4, 0)] v2 H2 = ∃ p xo xn, v2 = .tuple #[ptr p, iv 0] ∧ NW H1 H2 p [(1, 0), (4, 0)] xo xn := rfl
  rw [e2] at q2
  obtain ⟨p, xo, xn, rfl, N2⟩ := q2
  have P2 : HP H2 H1.next H2.next p [1, 4] [0, -9223372036854775808] 0 xo xn := N2.hp
  obtain ⟨v3, H3, T3, rfl, w3, b3, n3, k3, P3⟩ := add_T w2 P2 rfl 0 5 ⟨by constructor <;> decide, by decide⟩ (by decide)
  have P3' : HP H3 H1.next H2.next p [1, 4] [5, -9223372036854775808] 1 xo xn := P3
  obtain ⟨v4, H4, T4, rfl, w4, b4, n4, k4, P4⟩ := add_T w3 P3' rfl 0 2 ⟨by constructor <;> decide, by decide⟩ (by decide)
  have P4' : HP H4 H1.next H2.next p [1, 4] [7, -9223372036854775808] 2 xo xn := P4
  obtain ⟨v5, H5, T5, rfl, w5, b5, n5, k5, P5⟩ := add_T w4 P4' rfl 1 4 ⟨by constructor <;> decide, by decide⟩ (by decide)
  have P5' : HP H5 H1.next H2.next p [1, 4] [7, 4] 3 xo xn := P5
  obtain ⟨v6, H6, T6, rfl, w6, b6, n6, k6, P6⟩ := add_T w5 P5' rfl 2 1 ⟨by constructor <;> decide, by decide⟩ (by decide)
  have P6' : HP H6 H1.next H2.next p [1, 4] [7, 4] 3 xo xn := P6
  have m0 : may [1, 4] 0 = true := by decide
  have m1 : may [1, 4] 1 = true := by decide
  have m2 : may [1, 4] 2 = false := by decide
  obtain ⟨H7, hH7⟩ : ∃ H7, H7 = H6.new 2 1 [iv 10, iv 3] := ⟨_, rfl⟩
  have w7 : H7.WF := by rw [hH7]; exact WF_new w6 _ _ _
  have hnB6 := w6.next_ge
  have i7 : Ints H7 .i64 (.slice (some ⟨H6.next, 0, none⟩) 2 0) [10, 3] := by
    refine (Own.mk (ety := 2) (n := 2) (cells := ci [10, 3]) rfl ?_ ?_).ints
    · rw [hH7]; simpa using hnB6
    · rw [hH7]; simp [ci]
  have P7 := P6'.frame (H' := H7) (by rw [hH7]; rfl) (fun b _ hb => by rw [hH7]; simp [show b ≠ H6.next by omega])
  obtain ⟨v8, H8, T8, q8⟩ := onto_T w7 P7 rfl (by decide) (by rw [hH7]; simp; omega) i7 (by decide)
  have e8 : OntoQ H7 [1, 4] [7, 4] [10, 3] v8 H8 = ∃ y, v8 = .tuple #[y, .bool true] ∧ Og H7 H8 2 (.slice none 0 0) 2 (ci (ontoN [1, 4] [10, 3] [7, 4] 2)) y := rfl
  rw [e8] at q8
  obtain ⟨y, rfl, g8⟩ := q8
  have g8' : Og H7 H8 2 (.slice none 0 0) 2 (ci [17, 4]) y := g8
  have i8 : Ints H8 .i64 y [17, 4] := g8'.own.ints
  obtain ⟨by1, off1, c1, hy1, l81⟩ := i8.at (i := 0) (by decide)
  obtain ⟨by2, off2, c2, hy2, l82⟩ := i8.at (i := 1) (by decide)
  rw [hy1] at hy2
  simp only [Value.slice.injEq, Option.some.injEq, Addr.mk.injEq, and_true, true_and] at hy2
  obtain ⟨⟨rfl, rfl⟩, rfl⟩ := hy2
  have l81' : H8.load ⟨by1, off1, none⟩ = some (iv 17) := l81
  have l82' : H8.load ⟨by1, off1 + 1, none⟩ = some (iv 4) := l82
  have n7 : H7.next = H6.next + 1 := by rw [hH7]; rfl
  have P8 := P7.frame g8.base (fun b _ hb => Og.olds g8 b (by omega))
  have T9 := len_T P8
  have hnB8 := g8.wf.next_ge
  obtain ⟨H9, hH9⟩ : ∃ H9, H9 = H8.new 2 1 [iv 3, iv (-1), iv 7] := ⟨_, rfl⟩
  have i9 : Ints H9 .i64 (.slice (some ⟨H8.next, 0, none⟩) 3 0) [3, -1, 7] := by
    refine (Own.mk (ety := 2) (n := 3) (cells := ci [3, -1, 7]) rfl ?_ ?_).ints
    · rw [hH9]; simpa using hnB8
    · rw [hH9]; simp [ci]
  have T10 := fold_T (H := H9) 3 i9 (by decide)
  have e10 : foldV 3 [3, -1, 7] = -1 := by decide
  rw [e10] at T10
  rw [hy1] at T8
  have z22 : zerosA [.int .i64 0, .int .i64 0] 4 = [iv 0, iv 0, iv 0, iv 0] := rfl
  have z12 : zerosA [.int .i64 0] 2 = [iv 0, iv 0] := rfl
  have z13 : zerosA [.int .i64 0] 3 = [iv 0, iv 0, iv 0] := rfl
  simp [L13, z22]
  rw [← hH1]
  refine goT_of T2 ?_
  simp [fitsNil, isNil]
  refine goT_of T3 ?_
  simp [m0]
  refine goT_of T4 ?_
  simp [m0]
  refine goT_of T5 ?_
  simp [m1]
  refine goT_of T6 ?_
  simp [m2, z12]
  rw [← hH7]
  refine goT_of T8 ?_
  simp [l81', l82']
  refine goT_of T9 ?_
  simp [z13]
  rw [← hH9]
  refine goT_of T10 ?_
  simp
end Go.Proofs.Ytbocmkjcpjfecaa
