/-
  Chapter 29: the chain of a list of tasks, by both.
-/
import Derived.Test.YtfmcnojojknkfaaSeatE
namespace Go.Proofs.Ytfmcnojojknkfaa
open Go.Ot Go.RowKit Go.Fl
set_option linter.unusedSimpArgs false
set_option linter.unusedVariables false
def bestL (L : List Tk) : Option Nat := bestV L L.length 0 none
def chainV (L : List Tk) : List Int := chainGo L nxt (L.length + 1) (bestL L) []
def ChainF (H : Heap) (L : List Tk) (o : Out) (H' : Heap) : Prop := ∃ y, o = .ret y ∧ Ints H' .i64 y (chainV L) ∧ On H H'
/-- One number ahead of a row. -/
theorem ahead {H H1 : Heap} (on : On H H1) (n : Int) {y : Value} {l : List Int} (hy : Ints H1 .i64 y l) (hl : l.length ≤ 100000) :
    ∃ z HC, sAppend (H1.new 3 1 [iv n]) 3 1 8 (.slice (some ⟨H1.next, 0, none⟩) 1 0) y = some (z, HC) ∧ On H HC ∧ Ints HC .i64 z (n :: l) := by
  have hnB := on.wf.next_ge
  have oA : On H1 (H1.new 3 1 [iv n]) := (On.refl on.wf).new _ _ _
  have own : Own (H1.new 3 1 [iv n]) 3 1 1 [iv n] (.slice (some ⟨H1.next, 0, none⟩) 1 0) := Own.mk rfl (by simpa using hnB) (by simp)
  have hs := (Ints.on on.wf hy oA).src
  obtain ⟨a, HC, ap, og⟩ := Og.pour oA.wf own hs (by simp) (bytes := 8) (by omega)
  refine ⟨_, HC, ap, ⟨og.wf, by rw [og.base]; exact on.base, by have := og.next; have := on.next; simp at *; omega, fun b hb => ?_⟩, ?_⟩
  · have h1 : b < (H1.new 3 1 [iv n]).next := by have := on.next; simp; omega
    have h2 : blkOf (.slice (some ⟨H1.next, 0, none⟩) 1 0) ≠ some b := by have := on.next; simp; omega
    have h3 : b ≠ H1.next := by have := on.next; omega
    rw [og.same b h1 h2]
    simp [h3, on.keep b hb]
  · have := og.own
    exact Own.ints (n := 1 + l.length) (ety := 3) (xs := n :: l) (by simpa using this)
def InvC1 (H : Heap) (x : Value) (L : List Tk) (k : Nat) (t : Tm) (H1 : Heap) : Prop :=
  ∃ i b, i + k = L.length ∧ t 0 = x ∧ t 8 = x ∧ t 9 = iv L.length ∧ t 10 = iv i ∧ t 3 = iv (optI b) ∧ (∀ j, b = some j → j < L.length) ∧ bestV L k i b = bestL L ∧ On H H1
def InvC2 (H : Heap) (x : Value) (L : List Tk) (k : Nat) (t : Tm) (H1 : Heap) : Prop :=
  ∃ o out y, out.length + k = L.length + 1 ∧ out.length ≤ L.length ∧ t 0 = x ∧ t 7 = iv (optI o) ∧ t 6 = y ∧ (∀ j, o = some j → j < L.length) ∧ Ints H1 .i64 y out ∧ chainGo L nxt k o out = chainV L ∧ On H H1
theorem chain_E {H : Heap} (hw : H.WF) {x : Value} {L : List Tk} (hx : TkL H x L) (hl : L.length ≤ 10000) (hf : ∀ t ∈ L, t.from'.length ≤ 50) : TE Try.prog 8 [x] H (ChainF H L) := by
  refine TE_by hm light8 ?_
  obtain ⟨Q, hQ⟩ : ∃ Q, Q = ChainF H L := ⟨_, rfl⟩
  rw [← hQ]
  obtain ⟨a, c, hxa⟩ := hx.len
  rw [hxa]
  simp [L8]
  rw [← hxa]
  refine loop_at (InvC1 H x L) L.length ?_ ?_
  · exact ⟨0, none, by omega, by simp, by simp, by simp, by simp, by simp [optI], fun j hj => (by cases hj), rfl, On.refl hw⟩
  · rintro k t H1 ⟨i, b0, hik, t0, t8, t9, t10, t3, hb0, hgo, on1⟩
    cases k with
    | zero =>
      have e1 : ¬ ((i : Int) < L.length) := by omega
      rw [bestV] at hgo
      simp [L8_1, t9, t10, e1, t3]
      refine loop_at (InvC2 H x L) (L.length + 1) ?_ ?_
      · exact ⟨b0, [], .slice none 0 0, by simp, by simp, by simp [t0], by simp [t3], by simp, hb0, .inl ⟨rfl, rfl⟩, by rw [hgo]; rfl, on1⟩
      · rintro k t H2 ⟨o, out, y, hk, hol, t0, t7, t6, ho, iy, hch, on2⟩
        obtain ⟨ay, cy, hy⟩ := iy.len
        cases o with
        | none =>
          have e2 : ¬ ((0 : Int) ≤ -1) := by omega
          have : chainGo L nxt k none out = out := by cases k <;> rfl
          rw [this] at hch
          simp only [optI] at t7
          simp [L8_2, t7, e2, t6]
          exact ⟨by rw [hy]; rfl, by rw [hQ]; exact ⟨y, rfl, by rw [← hch]; exact iy, on2⟩⟩
        | some at' =>
          have hat := ho at' rfl
          cases k with
          | zero => omega
          | succ k =>
            have e2 : ((0 : Int) ≤ (at' : Int)) := by omega
            simp only [optI] at t7
            obtain ⟨b, off, c', hxs, all⟩ := hx.all (by omega)
            obtain ⟨u, v, z, A⟩ := all at' hat
            have c0 := (A.on hw on2).c0
            have hmem : L[at'] ∈ L := List.getElem_mem hat
            rw [chainGo, List.getElem?_eq_getElem hat] at hch
            simp only at hch
            obtain ⟨ag, hag⟩ : ∃ ag, ag = L[at'].age := ⟨_, rfl⟩
            rw [← hag] at c0 hch
            obtain ⟨z', HC, ap, onC, iz⟩ := ahead on2 ag iy (by omega)
            obtain ⟨az, cz, hz⟩ := iz.len
            have t0' := t0
            rw [hxs] at t0
            by_cases hlen : L.length ≤ out.length
            · have e3 : (L.length : Int) < (out.length : Int) + 1 := by omega
              rw [if_pos (by simp; omega)] at hch
              simp [L8_2, t7, e2, t0, hat, c0, z1, t6, ap, hz, e3]
              rw [hQ]
              exact ⟨.slice none 0 0, rfl, by rw [← hch]; exact .inl ⟨rfl, rfl⟩, onC⟩
            · have e3 : ¬ (L.length : Int) < (out.length : Int) + 1 := by omega
              rw [if_neg (by simp; omega)] at hch
              have bT := bef_T onC.wf (hx.on hw onC) (by omega) at' hat (hf _ hmem)
              obtain ⟨o', ho'⟩ : ∃ o', o' = befV L (nxt L[at'].deep) L[at'].from' := ⟨_, rfl⟩
              rw [← ho'] at bT hch
              simp [L8_2, t7, e2, t0, hat, c0, z1, t6, ap, hz, e3]
              rw [← hxs]
              refine goT_of bT ?_
              simp
              exact ⟨k, by omega, o', ag :: out, z', by simp; omega, by simp; omega, by simp [t0'], by simp, by simp [hz], fun j hj => by rw [hj] at ho'; exact befV_lt L _ _ j ho'.symm, iz, hch, onC⟩
    | succ k =>
      have hil : i < L.length := by omega
      have e1 : ((i : Int) < L.length) := by omega
      have e4 : IntKind.i64.wrap ((i : Int) + 1) = ((i + 1 : Nat) : Int) := by rw [w64 _ (by omega)]; omega
      obtain ⟨iN, hiN⟩ : ∃ n : Nat, n = i + 1 := ⟨_, rfl⟩
      rw [← hiN] at e4
      obtain ⟨b, off, c', hxs, all⟩ := hx.all (by omega)
      obtain ⟨u, v, z, A⟩ := all i hil
      obtain ⟨dp, hdp⟩ : ∃ dp, dp = L[i].deep := ⟨_, rfl⟩
      have all5 := (A.on hw on1).all
      obtain ⟨R5, hR5⟩ : ∃ R5, R5 = [iv L[i].age, u, v, z, iv L[i].deep] := ⟨_, rfl⟩
      rw [← hR5] at all5
      obtain ⟨HB, stB, onB, nB, ldB⟩ := newTk on1.wf R5 (by rw [hR5]; rfl)
      have on3 := on1.trans onB
      have l4 : HB.load ⟨H1.next, 4, none⟩ = some (iv dp) := by rw [ldB, hR5, hdp]; rfl
      have t0' := t0
      have t8' := t8
      rw [hxs] at t0 t8
      cases b0 with
      | none =>
        rw [bestV] at hgo
        simp only [optI] at t3
        simp [L8_1, t9, t10, e1, t8, hil, all5, stB, t3, e4]
        exact ⟨k, by omega, iN, some i, by omega, by simp [t0'], by simp [t8'], by simp [t9], by simp, by simp [optI], fun j hj => (by simp at hj; omega), by rw [hiN]; exact hgo, on3⟩
      | some j =>
        have hj := hb0 j rfl
        have e5 : ¬ ((j : Int) < 0) := by omega
        obtain ⟨u2, v2, z2, A2⟩ := all j hj
        have c4 := (A2.on hw on3).c4
        obtain ⟨dj, hdj⟩ : ∃ dj, dj = L[j].deep := ⟨_, rfl⟩
        rw [← hdj] at c4
        rw [bestV] at hgo
        have hg1 : (L[j]?.map Tk.deep).getD 0 = dj := by rw [List.getElem?_eq_getElem hj, hdj]; rfl
        have hg2 : (L[i]?.map Tk.deep).getD 0 = dp := by rw [List.getElem?_eq_getElem hil, hdp]; rfl
        simp only [hg1, hg2] at hgo
        simp only [optI] at t3
        by_cases hlt : dj < dp
        · rw [if_pos hlt] at hgo
          simp [L8_1, t9, t10, e1, t8, hil, all5, stB, t3, e4, e5, l4, t0, hj, c4, hlt]
          exact ⟨k, by omega, iN, some i, by omega, by simp [t0'], by simp [t8'], by simp [t9], by simp, by simp [optI], fun j hj => (by simp at hj; omega), by rw [hiN]; exact hgo, on3⟩
        · rw [if_neg hlt] at hgo
          simp [L8_1, t9, t10, e1, t8, hil, all5, stB, t3, e4, e5, l4, t0, hj, c4, hlt]
          exact ⟨k, by omega, iN, some j, by omega, by simp [t0'], by simp [t8'], by simp [t9], by simp, by simp [optI, t3], fun q hq => (by simp at hq; omega), by rw [hiN]; exact hgo, on3⟩
end Go.Proofs.Ytfmcnojojknkfaa
