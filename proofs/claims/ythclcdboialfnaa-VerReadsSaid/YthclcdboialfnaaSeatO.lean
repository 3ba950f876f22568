/-
  Chapter 21: the chapter's example holds.
-/
import Derived.Test.YthclcdboialfnaaSeatP
namespace Go.Proofs.Ythclcdboialfnaa
open Go.Ot Go.RowKit
set_option linter.unusedSimpArgs false
set_option linter.unusedVariables false
theorem Fm.old {H H1 : Heap} {p : Nat} {D D' : SD} (f : Fm H H1 p D D') {n : Nat} (hn : n ≤ H.next) (hm : ∀ b, Mine p D b → n ≤ b) : (∀ b, b < n → H1.blk b = H.blk b) ∧ ∀ b, Mine p D' b → n ≤ b :=
  ⟨fun b hb => f.keep b (by omega) (fun h => by have := hm b h; omega), fun b hb => by
    rcases f.new b hb with h | h
    · exact hm b h
    · omega⟩
theorem stepG (w : World) {xs ys : Array Value} {f : Field} {fs : List Field} {n m : Int} (hn : f.name ≠ "_") (hk : Try.prog.plainKey f.type = true) (hu : Try.prog.underlying f.type = some (.int .i64)) (hx : xs[f.offset]? = some (iv n)) (hy : ys[f.offset]? = some (iv m)) :
    (Op.eqFields 9999 xs ys (f :: fs)).run Try.prog w = if n = m then (Op.eqFields 9999 xs ys fs).run Try.prog w else .ok false w := by
  simp only [Op.eqFields]
  rw [if_pos hn]
  simp only [Sem.run_bind, run_part_plain w hk hx, run_part_plain w hk hy, Result.andThen_ok, run_equalIn_int w 9998 f.type .i64 .i64 _ _ hu]
  by_cases h : n = m
  · simp [h]
  · simp [h]
set_option maxRecDepth 100000 in
theorem eqV (n m : Int) (w : World) : (Op.equal 33 (.agg #[iv n, iv m]) (.agg #[iv n, iv m])).run Try.prog w = .ok true w := by
  have hd : Op.equal 33 (.agg #[iv n, iv m]) (.agg #[iv n, iv m]) = Op.equalIn (9999 + 1) 33 (.agg #[iv n, iv m]) (.agg #[iv n, iv m]) := rfl
  have hf : ∃ f1 f2 : Field, Try.prog.fieldsOf 33 = #[f1, f2] ∧ f1.name ≠ "_" ∧ f2.name ≠ "_" ∧ f1.offset = 0 ∧ f2.offset = 1 ∧ Try.prog.underlying f1.type = some (.int .i64) ∧ Try.prog.underlying f2.type = some (.int .i64) ∧ Try.prog.plainKey f1.type = true ∧ Try.prog.plainKey f2.type = true ∧ Try.prog.underlying 33 = some (.struct #[f1, f2]) := by
    unfold Program.fieldsOf
    rw [Try.underlying33]
    exact ⟨_, _, rfl, by decide, by decide, rfl, rfl, Try.underlying3, Try.underlying2, by kernel_rfl, by kernel_rfl, rfl⟩
  obtain ⟨f1, f2, hf, n1, n2, o1, o2, u1, u2, k1, k2, hu⟩ := hf
  rw [hd, run_equalIn_struct w 9999 33 _ _ (by rw [hf]; exact hu) (by kernel_rfl), hf]
  show (Op.eqFields 9999 #[iv n, iv m] #[iv n, iv m] [f1, f2]).run Try.prog w = _
  rw [stepG (n := n) (m := n) w n1 k1 u1 (by rw [o1]; rfl) (by rw [o1]; rfl), if_pos rfl, stepG (n := m) (m := m) w n2 k2 u2 (by rw [o2]; rfl) (by rw [o2]; rfl), if_pos rfl]
  rfl
theorem example_T {H : Heap} (hw : H.WF) : T Try.prog 12 [] H (.bool true) H := by
  refine TN.one rfl (Nat.le_refl _) id ?_
  refine TN.mono (TN.forget (Q := fun o H' => o = .ret (.bool true) ∧ ∀ b, b < H.next → H'.blk b = H.blk b) (Q' := fun o => o = .ret (.bool true)) ?_ ?_) (fun o H' h _ _ _ => ⟨h.2, h.1⟩)
  · refine N_by hm light12 ?_
    simp [L12]
    refine goN_of (new_N hw (W := 2) (R := 3) (by omega) (by omega)) ?_
    rintro o H1 ⟨v, rfl, p, D, rfl, st, pl, fl, hc, hmn, hk⟩ hw1 _ hn1
    obtain ⟨H2, D2, t2, st2, pl2, fm2, f2, c2⟩ := put_TT hw1 st pl 0 5 50
    have p2 : putE (cont D) 2 D.fr.length 0 5 = 0 := by rw [fl]; simp [putE, hc]
    rw [p2] at t2 f2 c2
    simp [hc] at f2 c2
    obtain ⟨H3, D3, t3, st3, pl3, fm3, f3, c3⟩ := put_TT fm2.wf st2 pl2 0 2 20
    have g2 : D2.fr.length = 2 := by omega
    have p3 : putE (cont D2) 2 D2.fr.length 0 2 = 0 := by rw [g2]; simp [putE]
    rw [p3] at t3 f3 c3
    simp [c2] at f3 c3
    obtain ⟨H4, D4, t4, st4, pl4, fm4, f4, c4⟩ := put_TT fm3.wf st3 pl3 1 5 7
    have g3 : D3.fr.length = 1 := by omega
    have p4 : putE (cont D3) 2 D3.fr.length 1 5 = 0 := by rw [g3]; simp [putE]
    rw [p4] at t4 f4 c4
    simp [c3] at f4 c4
    obtain ⟨H5, D5, t5, st5, pl5, fm5, f5, c5⟩ := put_TT fm4.wf st4 pl4 1 6 8
    have g4 : D4.fr.length = 0 := by omega
    have p5 : putE (cont D4) 2 D4.fr.length 1 6 = 200 := by rw [g4]; simp [putE, c4]
    rw [p5] at t5 f5 c5
    simp at f5 c5
    simp
    refine goN_T t2 ?_
    simp
    refine goN_T t3 ?_
    simp
    refine goN_T t4 ?_
    simp
    refine goN_T t5 ?_
    simp
    obtain ⟨r, oT, hr1, hr2⟩ := older_TT fm5.wf st5 pl5 (a := 0) (by omega) 5
    have cr : r = some (2, 20) := by
      cases r with
      | none => have := hr2 rfl 2 (by omega); simp [c5, c4, c3] at this
      | some qv =>
        obtain ⟨q, v⟩ := qv
        obtain ⟨h1, h2, h3⟩ := hr1 q v rfl
        have h4 := h3 2 (by omega) (by simp [c5, c4, c3])
        by_cases hq : q = 2
        · subst hq
          simp [c5, c4, c3] at h2
          rw [h2]
        · have hq5 : q ≠ 5 := by omega
          simp [c5, c4, c3, c2, hc, hq, hq5] at h2
    rw [cr] at oT
    refine goN_T oT ?_
    have hw5 := fm5.wf
    obtain ⟨HA, hHA⟩ : ∃ HA, HA = H5.new 33 2 [iv 0, iv 0] := ⟨_, rfl⟩
    have onA : On H5 HA := by rw [hHA]; exact (On.refl hw5).new _ _ _
    have vA : Vr HA H5.next 33 2 [iv 0, iv 0] := by rw [hHA]; exact Vr.mk' hw5 _ _ _
    have sf := vA.storeA (m := 2) (by decide) [iv 2, iv 20] rfl rfl
    have ld := (vA.put [iv 2, iv 20]).loadA (m := 2) rfl
    have onC : On H5 (HA.put H5.next [iv 2, iv 20]) := onA.put (Nat.le_refl _) _
    obtain ⟨HC, hHC⟩ : ∃ HC, HC = HA.put H5.next [iv 2, iv 20] := ⟨_, rfl⟩
    rw [← hHC] at sf ld onC
    have stC := st5.on hw5 onC
    obtain ⟨v6, H6, dT, rfl, D6, st6, pl6, fm6, f6, c6⟩ := dropall_T onC.wf stC pl5 5
    have m6 : manyF (cont D5) 5 2 = 2 := by
      rw [show (2 : Nat) = 1 + 1 from rfl, manyF_succ, manyF_succ]
      simp [manyF, c5, c4, c3, c2]
    rw [m6] at dT f6
    have lT := slive_T stC pl5
    have frT := sfree_T st6
    simp [olderW, ← hHA, sf, ld]
    refine goE_of (b := true) (by rfl) (by rfl) (eqV 2 20) ?_
    simp
    have g5 : D5.fr.length = 0 := by omega
    have g6 : D6.fr.length = 2 := by omega
    rw [g6] at frT
    rw [g5] at lT
    refine goN_T lT ?_
    simp
    refine goN_T dT ?_
    simp
    refine goN_T frT ?_
    simp [EndN, packV]
    have o1 := fm2.old hn1 hmn
    have n2 := fm2.next
    have o2 := fm3.old (by omega) o1.2
    have n3 := fm3.next
    have o3 := fm4.old (by omega) o2.2
    have n4 := fm4.next
    have o4 := fm5.old (by omega) o3.2
    have n5 := fm5.next
    have nC := onC.next
    have o5 := fm6.old (n := H.next) (by omega) o4.2
    intro b hb
    rw [o5.1 b hb, onC.keep b (by omega), o4.1 b hb, o3.1 b hb, o2.1 b hb, o1.1 b hb, hk b hb]
  · rintro o H' ⟨rfl, h⟩
    exact ⟨rfl, h, rfl⟩
end Go.Proofs.Ythclcdboialfnaa
