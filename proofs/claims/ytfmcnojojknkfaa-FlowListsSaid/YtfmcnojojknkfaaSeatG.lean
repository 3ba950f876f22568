/-
  Chapter 29: the chain of a list of tasks, by the document.
-/
import Derived.Test.YtfmcnojojknkfaaSeatF
namespace Go.Proofs.Ytfmcnojojknkfaa
open Go.Ot Go.RowKit Go.Fl
set_option linter.unusedSimpArgs false
set_option linter.unusedVariables false
def InvD1 (H : Heap) (x : Value) (L : List Tk) (k : Nat) (t : Tm) (H1 : Heap) : Prop :=
  ∃ i b, i + k = L.length ∧ t 0 = x ∧ t 4 = iv i ∧ t 3 = iv (optI b) ∧ (∀ j, b = some j → j < L.length) ∧ bestV L k i b = bestL L ∧ H1 = H
def InvD2 (H : Heap) (x : Value) (L : List Tk) (k : Nat) (t : Tm) (H1 : Heap) : Prop :=
  ∃ o out y, out.length + k = L.length + 1 ∧ out.length ≤ L.length ∧ t 0 = x ∧ t 3 = iv (optI o) ∧ t 5 = y ∧ (∀ j, o = some j → j < L.length) ∧ Row H H1 3 1 out.length (ci out.reverse) y ∧ chainGo L nxt k o out = chainV L
def InvD3 (HC : Heap) (x y : Value) (L : List Tk) (at' : Nat) (F : List Int) (dn : Int) (k : Nat) (t : Tm) (H1 : Heap) : Prop :=
  ∃ i o', i + k = F.length ∧ t 0 = x ∧ t 3 = iv at' ∧ t 5 = y ∧ t 6 = iv (optI o') ∧ t 7 = iv i ∧ H1 = HC ∧ (o' = none → befV L dn (F.drop i) = befV L dn F) ∧ ∀ j, o' = some j → befV L dn F = some j
def InvD4 (H2 : Heap) (y : Value) (out : List Int) (k : Nat) (t : Tm) (H1 : Heap) : Prop :=
  ∃ m z, m + k = out.length ∧ t 5 = y ∧ t 8 = z ∧ t 9 = iv ((k : Int) - 1) ∧ Row H2 H1 3 1 m (ci (out.take m)) z
theorem docChain_E {H : Heap} (hw : H.WF) {x : Value} {L : List Tk} (hx : TkL H x L) (hl : L.length ≤ 10000) (hf : ∀ t ∈ L, t.from'.length ≤ 50) : TE Try.prog 9 [x] H (ChainF H L) := by
  refine TE_by hm light9 ?_
  obtain ⟨Q, hQ⟩ : ∃ Q, Q = ChainF H L := ⟨_, rfl⟩
  rw [← hQ]
  obtain ⟨a, c, hxa⟩ := hx.len
  simp [L9]
  refine loop_at (InvD1 H x L) L.length ?_ ?_
  · exact ⟨0, none, by omega, by simp, by simp, by simp [optI], fun j hj => (by cases hj), rfl, rfl⟩
  · rintro k t H1 ⟨i, b0, hik, t0, t4, t3, hb0, hgo, rfl⟩
    cases k with
    | zero =>
      have e1 : ¬ ((i : Int) < L.length) := by omega
      rw [bestV] at hgo
      have t0' := t0
      rw [hxa] at t0
      simp [L9_1, t0, t4, e1]
      refine loop_at (InvD2 H1 x L) (L.length + 1) ?_ ?_
      · exact ⟨b0, [], .slice none 0 0, by simp, by simp, by simp [t0'], by simp [t3], by simp, hb0, Row.nil hw 3 1, by rw [hgo]; rfl⟩
      · rintro k t H2 ⟨o, out, y, hk, hol, t0, t3, t5, ho, row, hch⟩
        obtain ⟨ay, hy⟩ := row.own.len
        have on2 := row.on
        cases o with
        | none =>
          have e2 : ¬ ((0 : Int) ≤ -1) := by omega
          have : chainGo L nxt k none out = out := by cases k <;> rfl
          rw [this] at hch
          simp only [optI] at t3
          have e5 : IntKind.i64.wrap ((out.length : Int) - 1) = (out.length : Int) - 1 := w64 _ (by omega)
          have t5' := t5
          rw [hy] at t5
          simp [L9_3, t3, e2, t5, e5]
          rw [← hy]
          refine loop_at (InvD4 H2 y out) out.length ?_ ?_
          · exact ⟨0, .slice none 0 0, by omega, by simp [t5'], by simp, by simp, Row.nil on2.wf 3 1⟩
          · rintro k t H3 ⟨m, z, hmk, t5, t8, t9, rowz⟩
            obtain ⟨az, hz⟩ := rowz.own.len
            cases k with
            | zero =>
              have e6 : ¬ ((0 : Int) ≤ ((0 : Nat) : Int) - 1) := by omega
              have hm' : m = out.length := by omega
              rw [List.take_of_length_le (by omega)] at rowz
              rw [show (((0 : Nat) : Int) - 1) = -1 by omega] at t9
              simp [L9_4, t9, t8]
              have key : Q (.ret z) H3 := by
                rw [hQ]
                exact ⟨z, rfl, by rw [← hch]; exact rowz.own.ints, on2.trans rowz.on⟩
              exact ⟨by rw [hz]; rfl, key⟩
            | succ k =>
              have e6 : ((0 : Int) ≤ ((k + 1 : Nat) : Int) - 1) := by omega
              have e7 : ((k + 1 : Nat) : Int) - 1 = (k : Int) := by omega
              rw [e7] at t9
              have hkl : k < out.reverse.length := by simp; omega
              have iy : Ints H3 .i64 y out.reverse := Ints.on on2.wf (row.own.ints) rowz.on
              obtain ⟨b, off, c', hyb, ld⟩ := iy.at hkl
              have hmo : m < out.length := by omega
              have hv : out.reverse[k] = out[m] := by rw [List.getElem_reverse]; congr 1; omega
              rw [hv] at ld
              obtain ⟨n, hn⟩ : ∃ n, n = out[m] := ⟨_, rfl⟩
              rw [← hn] at ld
              obtain ⟨z', H4, ap, row4⟩ := row_push (e := [iv n]) 8 rowz rfl (by decide) (by omega)
              have hT : ci (out.take m) ++ [iv n] = ci (out.take (m + 1)) := by rw [ci_snoc, List.take_add_one, List.getElem?_eq_getElem hmo, hn]; rfl
              rw [hT] at row4
              have hkn : (k : Int) < (out.reverse.length : Int) := by omega
              have e8 : IntKind.i64.wrap ((k : Int) - 1) = (k : Int) - 1 := w64 _ (by omega)
              have t5' := t5
              rw [hyb] at t5
              have hkl' : k < out.length := by simpa using hkl
              simp [L9_4, t9, t5, hkl', ld, z1, t8, ap, e8]
              exact ⟨k, by omega, m + 1, z', by omega, by simp [t5'], by simp, by simp, row4⟩
        | some at' =>
          have hat := ho at' rfl
          cases k with
          | zero => omega
          | succ k =>
            have e2 : ((0 : Int) ≤ (at' : Int)) := by omega
            simp only [optI] at t3
            obtain ⟨b, off, c', hxs, all⟩ := hx.all (by omega)
            obtain ⟨u, v, z, A⟩ := all at' hat
            have c0 := (A.on hw on2).c0
            have hmem : L[at'] ∈ L := List.getElem_mem hat
            rw [chainGo, List.getElem?_eq_getElem hat] at hch
            simp only at hch
            obtain ⟨ag, hag⟩ : ∃ ag, ag = L[at'].age := ⟨_, rfl⟩
            rw [← hag] at c0 hch
            obtain ⟨z', HC, ap, rowC⟩ := row_push (e := [iv ag]) 8 row rfl (by decide) (by omega)
            have hT : ci out.reverse ++ [iv ag] = ci (ag :: out).reverse := by rw [ci_snoc, List.reverse_cons]
            rw [hT] at rowC
            obtain ⟨az, hz⟩ := rowC.own.len
            have t0' := t0
            rw [hxs] at t0
            by_cases hlen : L.length ≤ out.length
            · have e3 : (L.length : Int) < (out.length : Int) + 1 := by omega
              rw [if_pos (by simp; omega)] at hch
              simp [L9_3, t3, e2, t0, hat, c0, z1, t5, ap, hz, e3]
              rw [hQ]
              exact ⟨.slice none 0 0, rfl, by rw [← hch]; exact .inl ⟨rfl, rfl⟩, rowC.on⟩
            · have e3 : ¬ (L.length : Int) < (out.length : Int) + 1 := by omega
              rw [if_neg (by simp; omega)] at hch
              obtain ⟨F, hF⟩ : ∃ F, F = L[at'].from' := ⟨_, rfl⟩
              obtain ⟨D, hD⟩ : ∃ D, D = L[at'].deep := ⟨_, rfl⟩
              obtain ⟨dn, hdn⟩ : ∃ dn, dn = nxt D := ⟨_, rfl⟩
              have ed : IntKind.i64.wrap (D - 1) = dn := hdn.symm
              rw [← hF, ← hD, ← hdn] at hch
              have hF50 : F.length ≤ 50 := by rw [hF]; exact hf _ hmem
              have AC := A.on hw rowC.on
              have c3 := AC.c3
              have c4 := AC.c4
              have iz := AC.iz
              rw [← hF] at iz
              rw [← hD] at c4
              obtain ⟨afz, cfz, hzf⟩ := iz.len
              have c3' := c3
              rw [hzf] at c3
              simp [L9_3, t3, e2, t0, hat, c0, z1, t5, ap, hz, e3]
              rw [← hxs]
              refine loop_at (InvD3 HC x z' L at' F dn) F.length ?_ ?_
              · exact ⟨0, none, by omega, by simp [t0'], by simp [t3], by simp [hz], by simp [optI], by simp, rfl, fun _ => rfl, fun j hj => (by cases hj)⟩
              · rintro k2 t H3 ⟨i, o', hik2, t0, t3, t5, t6, t7, rfl, hn, hs⟩
                have t0' := t0
                rw [hxs] at t0
                cases o' with
                | some j =>
                  have e9 : ¬ ((j : Int) < 0) := by omega
                  simp only [optI] at t6
                  have hbf := hs j rfl
                  rw [hbf] at hch
                  by_cases hi : (i : Int) < (F.length : Int)
                  · simp [L9_2, t7, t0, t3, hat, c3, hi, t6, e9]
                    exact ⟨k, by omega, some j, ag :: out, z', by simp; omega, by simp; omega, by simp [t0'], by simp [optI], by simp [t5], fun q hq => (by simp at hq; rw [← hq]; exact befV_lt L _ _ j hbf), rowC, hch⟩
                  · simp [L9_2, t7, t0, t3, hat, c3, hi, t6, e9]
                    exact ⟨k, by omega, some j, ag :: out, z', by simp; omega, by simp; omega, by simp [t0'], by simp [optI], by simp [t5], fun q hq => (by simp at hq; rw [← hq]; exact befV_lt L _ _ j hbf), rowC, hch⟩
                | none =>
                  simp only [optI] at t6
                  have hbf := hn rfl
                  cases k2 with
                  | zero =>
                    have e9 : ¬ ((i : Int) < (F.length : Int)) := by omega
                    rw [List.drop_of_length_le (by omega), befV] at hbf
                    rw [← hbf] at hch
                    simp [L9_2, t7, t0, t3, hat, c3, e9, t6]
                    exact ⟨k, by omega, none, ag :: out, z', by simp; omega, by simp; omega, by simp [t0'], by simp [optI], by simp [t5], fun q hq => (by cases hq), rowC, hch⟩
                  | succ k2 =>
                    have hil : i < F.length := by omega
                    have e9 : ((i : Int) < (F.length : Int)) := by omega
                    have e4 : IntKind.i64.wrap ((i : Int) + 1) = ((i + 1 : Nat) : Int) := by rw [w64 _ (by omega)]; omega
                    obtain ⟨iN, hiN⟩ : ∃ n : Nat, n = i + 1 := ⟨_, rfl⟩
                    rw [← hiN] at e4
                    obtain ⟨bz, oz, cz', hzb, ldz⟩ := iz.at hil
                    have hsl : Value.slice afz F.length cfz = Value.slice (some ⟨bz, oz, none⟩) F.length cz' := hzf.symm.trans hzb
                    obtain ⟨w, hwv⟩ : ∃ w, w = F[i] := ⟨_, rfl⟩
                    rw [← hwv] at ldz
                    have hd : F.drop i = w :: F.drop iN := by rw [hwv, hiN]; exact List.drop_eq_getElem_cons hil
                    rw [hd, befV] at hbf
                    have fT := find_T (hx.on hw rowC.on) (by omega) w dn
                    obtain ⟨q, hq⟩ : ∃ q, q = findV L w dn L.length 0 := ⟨_, rfl⟩
                    rw [← hq] at fT hbf
                    rw [hsl] at c3
                    simp [L9_2, t7, t0, t3, hat, c3, e9, t6, hil, ldz, c4, ed]
                    rw [← hxs]
                    refine goT_of fT ?_
                    simp [t7, e4]
                    refine ⟨k2, by omega, iN, q, by omega, by simp [t0'], by simp [t3], by simp [t5], by simp, by simp, rfl, fun hqn => ?_, fun j hj => ?_⟩
                    · rw [hqn] at hbf; exact hbf
                    · rw [hj] at hbf; exact hbf.symm
    | succ k =>
      have hil : i < L.length := by omega
      have e1 : ((i : Int) < L.length) := by omega
      have e4 : IntKind.i64.wrap ((i : Int) + 1) = ((i + 1 : Nat) : Int) := by rw [w64 _ (by omega)]; omega
      obtain ⟨iN, hiN⟩ : ∃ n : Nat, n = i + 1 := ⟨_, rfl⟩
      rw [← hiN] at e4
      obtain ⟨b, off, c', hxs, all⟩ := hx.all (by omega)
      obtain ⟨u, v, z, A⟩ := all i hil
      obtain ⟨dp, hdp⟩ : ∃ dp, dp = L[i].deep := ⟨_, rfl⟩
      have l4 := A.c4
      rw [← hdp] at l4
      have t0' := t0
      rw [hxs] at t0
      cases b0 with
      | none =>
        rw [bestV] at hgo
        simp only [optI] at t3
        simp [L9_1, t0, t4, e1, t3, e4]
        exact ⟨k, by omega, iN, some i, by omega, by simp [t0'], by simp, by simp [optI], fun j hj => (by simp at hj; omega), by rw [hiN]; exact hgo, rfl⟩
      | some j =>
        have hj := hb0 j rfl
        have e5 : ¬ ((j : Int) < 0) := by omega
        obtain ⟨u2, v2, z2, A2⟩ := all j hj
        have c4 := A2.c4
        obtain ⟨dj, hdj⟩ : ∃ dj, dj = L[j].deep := ⟨_, rfl⟩
        rw [← hdj] at c4
        rw [bestV] at hgo
        have hg1 : (L[j]?.map Tk.deep).getD 0 = dj := by rw [List.getElem?_eq_getElem hj, hdj]; rfl
        have hg2 : (L[i]?.map Tk.deep).getD 0 = dp := by rw [List.getElem?_eq_getElem hil, hdp]; rfl
        simp only [hg1, hg2] at hgo
        simp only [optI] at t3
        by_cases hlt : dj < dp
        · rw [if_pos hlt] at hgo
          simp [L9_1, t0, t4, e1, hil, t3, e4, e5, l4, hj, c4, hlt]
          exact ⟨k, by omega, iN, some i, by omega, by simp [t0'], by simp, by simp [optI], fun j hj => (by simp at hj; omega), by rw [hiN]; exact hgo, rfl⟩
        · rw [if_neg hlt] at hgo
          simp [L9_1, t0, t4, e1, hil, t3, e4, e5, l4, hj, c4, hlt]
          exact ⟨k, by omega, iN, some j, by omega, by simp [t0'], by simp, by simp [optI, t3], fun q hq => (by simp at hq; omega), by rw [hiN]; exact hgo, rfl⟩
end Go.Proofs.Ytfmcnojojknkfaa
