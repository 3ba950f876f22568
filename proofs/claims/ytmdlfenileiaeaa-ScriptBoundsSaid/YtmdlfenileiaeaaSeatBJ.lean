/-
  Chapter 25: ScriptBounds.
-/
import Derived.Test.YtmdlfenileiaeaaSeatBI
import Derived.Test.YtmdlfenileiaeaaSeatK
namespace Go.Proofs.Ytmdlfenileiaeaa
open Go.Ot Go.RowKit
open R14 (Twos)
open I8 (In rowI)
set_option linter.unusedSimpArgs false
set_option linter.unusedVariables false
/-- What came in of a job: its rows, so long as they are. -/
structure Jb0 (H : Heap) (J : Jb) : Prop where
  xc : Twos H J.xc J.cells
  xr : Twos H J.xr J.reds
  xk : Cds H J.xk J.codes
  S : ShpOk J.S
  kinds : ∀ c ∈ J.codes, ∀ a ∈ c, I8.okI a.kind
theorem Jb0.on {H H1 : Heap} (hw : H.WF) {J : Jb} (h : Jb0 H J) (o : On H H1) : Jb0 H1 J :=
  ⟨h.xc.keep hw o.base o.keep, h.xr.keep hw o.base o.keep, h.xk.on hw o, h.S, h.kinds⟩
def greatV (J : Jb) : Bool := decide (200 < J.cells.length) || decide (50 < J.reds.length) || decide (50 < J.codes.length) || J.codes.any fun c => decide (700 < c.length)
def InvGr (H : Heap) (J : Jb) (p : Nat) (k : Nat) (t : Tm) (H1 : Heap) : Prop :=
  ∃ i : Nat, i + k = J.codes.length ∧ t 1 = ptr p ∧ t 3 = iv i ∧ ((J.codes.take i).any fun c => decide (700 < c.length)) = false ∧ H1 = H
theorem great_T {H : Heap} (hw : H.WF) {J : Jb} (ok : Jb0 H J) : T Try.prog 30 [.agg (jobC J).toArray] H (.bool (greatV J)) H := by
  obtain ⟨B, hB⟩ : ∃ B, B = greatV J := ⟨_, rfl⟩
  rw [← hB]
  refine T_seen hm light30 rfl ?_
  obtain ⟨G, hG⟩ : ∃ G, G = H.new 50 11 (jobC J) := ⟨_, rfl⟩
  have onG : On H G := by rw [hG]; exact (On.refl hw).new _ _ _
  have vG : Vr G H.next 50 11 (jobC J) := by rw [hG]; exact Vr.mk' hw _ _ _
  have okG := ok.on hw onG
  have jl := JL.of vG
  obtain ⟨ac, cc, hxc⟩ := ok.xc.len
  obtain ⟨ar, cr, hxr⟩ := ok.xr.len
  obtain ⟨ak, ck, hxk⟩ := ok.xk.len
  have l1 := jl.l1
  have l2 := jl.l2
  have l10 := jl.l10
  rw [hxc] at l1
  rw [hxr] at l2
  rw [hxk] at l10
  have fin := onG.keep
  unfold greatV at hB
  by_cases g1 : 200 < J.cells.length
  · have g1i : (200 : Int) < (J.cells.length : Int) := by omega
    have hB : B = true := by rw [hB]; simp [g1]
    simp [L30, ← hG, l1, g1, g1i, hB]
    exact fin
  have g1i : ¬ (200 : Int) < (J.cells.length : Int) := by omega
  by_cases g2 : 50 < J.reds.length
  · have g2i : (50 : Int) < (J.reds.length : Int) := by omega
    have hB : B = true := by rw [hB]; simp [g2]
    simp [L30, ← hG, l1, g1, g1i, l2, g2, g2i, hB]
    exact fin
  have g2i : ¬ (50 : Int) < (J.reds.length : Int) := by omega
  by_cases g3 : 50 < J.codes.length
  · have g3i : (50 : Int) < (J.codes.length : Int) := by omega
    have hB : B = true := by rw [hB]; simp [g3]
    simp [L30, ← hG, l1, g1, g1i, l2, g2, g2i, l10, g3, g3i, hB]
    exact fin
  have g3i : ¬ (50 : Int) < (J.codes.length : Int) := by omega
  have hB : B = J.codes.any fun c => decide (700 < c.length) := by rw [hB]; simp [g1, g2, g3]
  simp [L30, ← hG, l1, g1, g1i, l2, g2, g2i, l10, g3, g3i]
  refine loop_at (InvGr G J H.next) J.codes.length ?_ ?_
  · exact ⟨0, by omega, by simp, by simp, by simp, rfl⟩
  · rintro k t H1 ⟨i, hik, t1, t3, hno, rfl⟩
    cases k with
    | zero =>
      have e1 : ¬ ((i : Int) < J.codes.length) := by omega
      have e1' : ¬ i < J.codes.length := by omega
      rw [List.take_of_length_le (by omega)] at hno
      rw [hno] at hB
      simp [L30_1, t3, t1, l10, e1, e1', hB]
      exact fin
    | succ k =>
      have hil : i < J.codes.length := by omega
      have e1 : ((i : Int) < J.codes.length) := by omega
      have e4 : IntKind.i64.wrap ((i : Int) + 1) = ((i + 1 : Nat) : Int) := by rw [w64 _ (by omega)]; omega
      obtain ⟨iN, hiN⟩ : ∃ n : Nat, n = i + 1 := ⟨_, rfl⟩
      rw [← hiN] at e4
      obtain ⟨b, off, c, y, hxb, ldy, ry⟩ := okG.xk.at hil
      obtain ⟨ay, cy, hy⟩ := ry.len
      rw [List.length_map] at hy
      have l10' := jl.l10
      rw [hxb] at l10'
      rw [hy] at ldy
      have htk : ((J.codes.take iN).any fun c => decide (700 < c.length)) = decide (700 < J.codes[i].length) := by
        rw [hiN, List.take_succ_eq_append_getElem hil, List.any_append, hno]; simp
      by_cases h7 : 700 < J.codes[i].length
      · have h7i : (700 : Int) < (J.codes[i].length : Int) := by omega
        have hB : B = true := by
          rw [hB, List.any_eq_true]
          exact ⟨_, List.getElem_mem hil, by simpa using h7⟩
        simp [L30_1, t3, t1, l10', e1, hil, ldy, h7, h7i, hB]
        exact fin
      · have h7i : ¬ (700 : Int) < (J.codes[i].length : Int) := by omega
        simp [L30_1, t3, t1, l10', e1, hil, ldy, h7, h7i, e4]
        exact ⟨k, by omega, iN, by omega, by simp [t1], by simp, by rw [htk]; simp [h7], rfl⟩
abbrev runC (J : Jb) (C : Cfg) (xl : Value) : List Value := [iv J.words, J.xc, J.xr, iv J.fuel, iv J.S.kind, iv J.S.lo, iv J.S.hi, iv J.S.step, iv J.S.items, iv J.S.stages, J.xk, iv C.workers, iv C.window, iv C.policy, iv C.chunk, iv C.reads, iv C.writes, iv C.outs, iv C.arena, iv C.edges, iv C.retry, .bool C.force, xl]
theorem runC_eq (J : Jb) (C : Cfg) (xl : Value) : runC J C xl = jobC J ++ cfgC C ++ [xl] := rfl
structure RL (H : Heap) (p : Nat) (J : Jb) (C : Cfg) (xl : Value) : Prop where
  lJ : H.loadN ⟨p, 0, none⟩ 0 11 = some (jobC J)
  lC : H.loadN ⟨p, 11, none⟩ 0 11 = some (cfgC C)
  l22 : H.load ⟨p, 22, none⟩ = some xl
  lA : H.loadN ⟨p, 0, none⟩ 0 23 = some (runC J C xl)
theorem RL.of {H : Heap} {p ty n : Nat} {J : Jb} {C : Cfg} {xl : Value} (v : Vr H p ty n (runC J C xl)) : RL H p J C xl := by
  refine ⟨?_, ?_, v.load 22, v.loadA rfl⟩
  · have := loadN_cells (H := H) (b := p) (off := 0) (l := jobC J) (i := 0) (fun j hj => by
      have hj' : j < 11 := hj
      rw [v.load, Nat.zero_add, runC_eq, List.getElem?_append_left (by simp; omega), List.getElem?_append_left (by simpa using hj'), List.getElem?_eq_getElem])
    exact this
  · have := loadN_cells (H := H) (b := p) (off := 11) (l := cfgC C) (i := 0) (fun j hj => by
      have hj' : j < 11 := hj
      rw [v.load, Nat.add_zero, runC_eq, List.getElem?_append_left (by simp; omega), List.getElem?_append_right (by simp), List.getElem?_eq_getElem]
      · simp
      · simp; omega)
    exact this
theorem great24_T {H : Heap} (hw : H.WF) {J : Jb} (ok : Jb0 H J) (C : Cfg) {a : Option Addr} {n c : Nat} (most : Int) : T Try.prog 17 [.agg (runC J C (.slice a n c)).toArray, iv most] H (.bool (greatV J || decide (most < (n : Int)))) H := by
  obtain ⟨B, hB⟩ : ∃ B, B = (greatV J || decide (most < (n : Int))) := ⟨_, rfl⟩
  rw [← hB]
  refine T_seen hm light17 rfl ?_
  obtain ⟨G, hG⟩ : ∃ G, G = H.new 55 23 (runC J C (.slice a n c)) := ⟨_, rfl⟩
  have onG : On H G := by rw [hG]; exact (On.refl hw).new _ _ _
  have vG : Vr G H.next 55 23 (runC J C (.slice a n c)) := by rw [hG]; exact Vr.mk' hw _ _ _
  have rl := RL.of vG
  have gT := great_T onG.wf (ok.on hw onG)
  have fin := onG.keep
  simp [L17, ← hG, rl.lJ]
  refine goT_of gT ?_
  cases hg : greatV J with
  | true =>
    have hB : B = true := by rw [hB, hg]; rfl
    simp [hB]
    exact fin
  | false =>
    have hB : B = decide (most < (n : Int)) := by rw [hB, hg]; rfl
    simp [rl.l22, hB]
    exact fin
end Go.Proofs.Ytmdlfenileiaeaa
