/-
  Chapter 22: rows compared; a call's kind. Chapter 22: the document's Holds.
-/
import Derived.Test.YtjpdoflmjokplaaSeatU
import Derived.ChangeKeysEq
import Derived.Laws.StructEq
namespace Go.Proofs.Ytjpdoflmjokplaa
open Go.Ot Go.RowKit
set_option linter.unusedSimpArgs false
set_option linter.unusedVariables false
def InvRw (H : Heap) (x y : Value) (l : List Int) (k : Nat) (t : Tm) (H1 : Heap) : Prop :=
  ∃ i, i + k = l.length ∧ t 0 = x ∧ t 1 = y ∧ t 5 = iv i ∧ H1 = H
theorem rows_T {H : Heap} {x y : Value} {l : List Int} (hx : Ints H .i64 x l) (hy : Ints H .i64 y l) (hl : l.length ≤ 100000) : T Try.prog 18 [x, y] H (.bool true) H := by
  refine T_eq hm light18 ?_
  obtain ⟨a1, c1, h1⟩ := hx.len
  obtain ⟨a2, c2, h2⟩ := hy.len
  rw [h1, h2]
  simp [L18]
  rw [← h1, ← h2]
  refine loop_at (InvRw H x y l) l.length ?_ ?_
  · exact ⟨0, by omega, by simp [h1], by simp [h2], by simp, rfl⟩
  · rintro k t H1 ⟨i, hik, t0, t1, t5, rfl⟩
    cases k with
    | zero =>
      have e1 : ¬ ((i : Int) < l.length) := by omega
      rw [h1] at t0
      simp [L18_1, t5, t0, e1]
    | succ k =>
      have hil : i < l.length := by omega
      have e1 : ((i : Int) < l.length) := by omega
      have e4 : IntKind.i64.wrap ((i : Int) + 1) = ((i + 1 : Nat) : Int) := by rw [w64 _ (by omega)]; omega
      obtain ⟨iN, hiN⟩ : ∃ n : Nat, n = i + 1 := ⟨_, rfl⟩
      rw [← hiN] at e4
      obtain ⟨b, off, c, hxb, ldx⟩ := hx.at hil
      obtain ⟨b', off', c', hyb, ldy⟩ := hy.at hil
      have t0' := t0
      have t1' := t1
      rw [hxb] at t0
      rw [hyb] at t1
      simp [L18_1, t5, t0, t1, e1, hil, ldx, ldy, e4]
      exact ⟨k, by omega, iN, by omega, by simp [t0'], by simp [t1'], by simp, rfl⟩
theorem stepG (w : World) {xs ys : Array Value} {f : Field} {fs : List Field} {n m : Int} (hn : f.name ≠ "_") (hk : Try.prog.plainKey f.type = true) (hu : Try.prog.underlying f.type = some (.int .i64)) (hx : xs[f.offset]? = some (iv n)) (hy : ys[f.offset]? = some (iv m)) :
    (Op.eqFields 9999 xs ys (f :: fs)).run Try.prog w = if n = m then (Op.eqFields 9999 xs ys fs).run Try.prog w else .ok false w := by
  simp only [Op.eqFields]
  rw [if_pos hn]
  simp only [Sem.run_bind, run_part_plain w hk hx, run_part_plain w hk hy, Result.andThen_ok, run_equalIn_int w 9998 f.type .i64 .i64 _ _ hu]
  by_cases h : n = m
  · simp [h]
  · simp [h]
set_option maxRecDepth 100000 in
theorem eqC (e : Int × Int) (w : World) : (Op.equal 92 (.agg (row2 e).toArray) (.agg (row2 e).toArray)).run Try.prog w = .ok true w := by
  have hd : Op.equal 92 (.agg (row2 e).toArray) (.agg (row2 e).toArray) = Op.equalIn (9999 + 1) 92 (.agg (row2 e).toArray) (.agg (row2 e).toArray) := rfl
  have hf : ∃ f1 f2 : Field, Try.prog.fieldsOf 92 = #[f1, f2] ∧ f1.name ≠ "_" ∧ f2.name ≠ "_" ∧ f1.offset = 0 ∧ f2.offset = 1 ∧ Try.prog.underlying f1.type = some (.int .i64) ∧ Try.prog.underlying f2.type = some (.int .i64) ∧ Try.prog.plainKey f1.type = true ∧ Try.prog.plainKey f2.type = true ∧ Try.prog.underlying 92 = some (.struct #[f1, f2]) := by
    unfold Program.fieldsOf
    rw [Try.underlying92]
    exact ⟨_, _, rfl, by decide, by decide, rfl, rfl, Try.underlying3, Try.underlying2, by kernel_rfl, by kernel_rfl, rfl⟩
  obtain ⟨f1, f2, hf, n1, n2, o1, o2, u1, u2, k1, k2, hu⟩ := hf
  rw [hd, run_equalIn_struct w 9999 92 _ _ (by rw [hf]; exact hu) (by kernel_rfl), hf]
  show (Op.eqFields 9999 (row2 e).toArray (row2 e).toArray [f1, f2]).run Try.prog w = _
  rw [stepG (n := e.1) (m := e.1) w n1 k1 u1 (by rw [o1]; rfl) (by rw [o1]; rfl), if_pos rfl, stepG (n := e.2) (m := e.2) w n2 k2 u2 (by rw [o2]; rfl) (by rw [o2]; rfl), if_pos rfl]
  rfl
def InvSm (H : Heap) (x y : Value) (l : List (Int × Int)) (k : Nat) (t : Tm) (H1 : Heap) : Prop :=
  ∃ i, i + k = l.length ∧ t 0 = x ∧ t 1 = y ∧ t 5 = iv i ∧ H1 = H
theorem sames_T {H : Heap} {x y : Value} {l : List (Int × Int)} (hx : Rws H 2 x (l.map row2)) (hy : Rws H 2 y (l.map row2)) (hl : l.length ≤ 100000) : T Try.prog 16 [x, y] H (.bool true) H := by
  refine T_eq hm light16 ?_
  obtain ⟨a1, c1, h1⟩ := hx.len
  obtain ⟨a2, c2, h2⟩ := hy.len
  rw [List.length_map] at h1 h2
  rw [h1, h2]
  simp [L16]
  rw [← h1, ← h2]
  refine loop_at (InvSm H x y l) l.length ?_ ?_
  · exact ⟨0, by omega, by simp [h1], by simp [h2], by simp, rfl⟩
  · rintro k t H1 ⟨i, hik, t0, t1, t5, rfl⟩
    cases k with
    | zero =>
      have e1 : ¬ ((i : Int) < l.length) := by omega
      rw [h1] at t0
      simp [L16_1, t5, t0, e1]
    | succ k =>
      have hil : i < l.length := by omega
      have e1 : ((i : Int) < l.length) := by omega
      have e4 : IntKind.i64.wrap ((i : Int) + 1) = ((i + 1 : Nat) : Int) := by rw [w64 _ (by omega)]; omega
      obtain ⟨iN, hiN⟩ : ∃ n : Nat, n = i + 1 := ⟨_, rfl⟩
      rw [← hiN] at e4
      obtain ⟨b, off, c, hxb, _, ldx, _⟩ := hx.at (i := i) (by simpa using hil)
      obtain ⟨b', off', c', hyb, _, ldy, _⟩ := hy.at (i := i) (by simpa using hil)
      rw [List.getElem_map] at ldx ldy
      rw [List.length_map] at hxb hyb
      have t0' := t0
      have t1' := t1
      rw [hxb] at t0
      rw [hyb] at t1
      simp [L16_1, t5, t0, t1, e1, hil, ldx, ldy, e4]
      refine goE_of (by rfl) (by rfl) (eqC l[i]) ?_
      simp [t5, e4]
      exact ⟨k, by omega, iN, by omega, by simp [t0'], by simp [t1'], by simp, rfl⟩
def kindV (n : Int) : Int := (n.tmod 8 + 8).tmod 8
theorem kind_T {H : Heap} (n : Int) : T Try.prog 28 [iv n] H (iv (kindV n)) H := by
  refine T_eq hm light28 ?_
  have h1 := Int.tmod_lt_of_pos n (show (0 : Int) < 8 by decide)
  have h2 := Int.lt_tmod_of_pos n (show (0 : Int) < 8 by decide)
  obtain ⟨k1, hk1⟩ : ∃ k1, k1 = n.tmod 8 := ⟨_, rfl⟩
  have r1 : sBin .rem (iv n) (iv 8) = some (iv k1) := by rw [sBin_rem, if_neg (by decide), hk1]
  have c1 : IntKind.i64.wrap (k1 + 8) = k1 + 8 := w64 _ (by omega)
  have r2 : sBin .rem (iv (k1 + 8)) (iv 8) = some (iv ((k1 + 8).tmod 8)) := by rw [sBin_rem, if_neg (by decide)]
  rw [kindV, ← hk1]
  simp [L28, r1, c1, r2]
end Go.Proofs.Ytjpdoflmjokplaa
namespace Go.Proofs.Ytjpdoflmjokplaa
open Go.Ot Go.RowKit
set_option linter.unusedSimpArgs false
set_option linter.unusedVariables false
def InvHd (H HD : Heap) (x : Value) (m : List Int) (rs : List R3) (k : Nat) (t : Tm) (H1 : Heap) : Prop :=
  ∃ i, i + k = rs.length ∧ t 1 = x ∧ t 2 = ptr H.next ∧ t 5 = iv i ∧ (∀ j (h : j < rs.length), j < i → isBad m (row3 rs[j]) = false) ∧ On HD H1
theorem refHolds_T {H : Heap} (hw : H.WF) (d : DL) {rs : List R3} (hr : Rws H 3 d.xr (rs.map row3)) {x : Value} {m : List Int} (hx : Ints H .i64 x m) (hl : rs.length ≤ 1000) : T Try.prog 42 [dA d, x] H (.bool (holdsV rs m)) H := by
  refine T_seen hm light42 rfl ?_
  have hnB := hw.next_ge
  obtain ⟨HD, hHD⟩ : ∃ HD, HD = H.new 44 8 (dl d) := ⟨_, rfl⟩
  have onD : On H HD := ⟨by rw [hHD]; exact WF_new hw _ _ _, by rw [hHD]; rfl, by rw [hHD]; simp, fun b hb => by rw [hHD]; simp [show b ≠ H.next by omega]⟩
  have nD : HD.next = H.next + 1 := by rw [hHD]; simp
  have bD : HD.blk H.next = some ⟨44, 8, dl d⟩ := by rw [hHD]; simp
  have box : ∀ H1 : Heap, On HD H1 → H1.load ⟨H.next, 4, none⟩ = some d.xr := by
    intro H1 o
    rw [load_at (k := ⟨44, 8, dl d⟩) (by rw [B_eq (o.base.trans onD.base)]; exact hnB) (by rw [o.keep _ (by omega)]; exact bD)]
    rfl
  obtain ⟨a, c, hxl⟩ := hx.len
  obtain ⟨ar, cr, hrl⟩ := hr.len
  rw [List.length_map] at hrl
  simp [L42]
  rw [← hHD]
  refine ⟨rfl, ?_⟩
  refine loop_at (InvHd H HD x m rs) rs.length ?_ ?_
  · exact ⟨0, by omega, by simp, by simp, by simp, fun j _ h => absurd h (by omega), onD.wf, rfl, Nat.le_refl _, fun _ _ => rfl⟩
  · rintro k t H1 ⟨i, hik, t1, t2, t5, hno, o1⟩
    have oH : ∀ b, b < H.next → H1.blk b = H.blk b := fun b hb => by rw [o1.keep b (by omega), onD.keep b hb]
    have bH : H1.base = H.base := o1.base.trans onD.base
    have l4 := box H1 o1
    cases k with
    | zero =>
      have e1 : ¬ ((i : Int) < rs.length) := by omega
      have hv : holdsV rs m = true := by
        unfold holdsV
        rw [decide_eq_true_iff, fIdx_neg]
        intro r hr'
        obtain ⟨q, hq, rfl⟩ := List.mem_map.1 hr'
        obtain ⟨j, hj, rfl⟩ := List.getElem_of_mem hq
        exact hno j hj (by omega)
      rw [hrl] at l4
      rw [hv]
      simp [L42_1, t5, t2, l4, e1]
      exact oH
    | succ k =>
      have hil : i < rs.length := by omega
      have e1 : ((i : Int) < rs.length) := by omega
      have e4 : IntKind.i64.wrap ((i : Int) + 1) = ((i + 1 : Nat) : Int) := by rw [w64 _ (by omega)]; omega
      obtain ⟨b, off, c2, hrb, _, hld, _⟩ := (hr.keep hw bH oH).at (i := i) (by simpa using hil)
      rw [List.getElem_map] at hld
      rw [List.length_map] at hrb
      obtain ⟨r, hr'⟩ : ∃ r, r = rs[i] := ⟨_, rfl⟩
      rw [← hr'] at hld
      have st := new_storeA o1.wf 78 3 [iv 0, iv 0, iv 0] (row3 r) rfl rfl (by decide)
      obtain ⟨H2, hH2⟩ : ∃ H2, H2 = H1.new 78 3 (row3 r) := ⟨_, rfl⟩
      have o2 : On HD H2 := ⟨by rw [hH2]; exact WF_new o1.wf _ _ _, by rw [hH2]; exact o1.base, by rw [hH2]; have := o1.next; simp; omega, fun b hb => by rw [hH2]; have := o1.next; simp [show b ≠ H1.next by omega, o1.keep b hb]⟩
      have ld0 : H2.load ⟨H1.next, 0, none⟩ = some (iv r.1) := by rw [hH2, new_load o1.wf 78 3 (row3 r)]; rfl
      have ld1 : H2.load ⟨H1.next, 1, none⟩ = some (iv r.2.1) := by rw [hH2, new_load o1.wf 78 3 (row3 r)]; rfl
      rw [← hH2] at st
      obtain ⟨iN, hiN⟩ : ∃ n : Nat, n = i + 1 := ⟨_, rfl⟩
      rw [← hiN] at e4
      have oH2 : ∀ b, b < H.next → H2.blk b = H.blk b := fun b hb => by rw [o2.keep b (by omega), onD.keep b hb]
      have bH2 : H2.base = H.base := o2.base.trans onD.base
      have bad : isBad m (row3 r) = true → holdsV rs m = false := by
        intro hb
        unfold holdsV
        rw [decide_eq_false_iff_not, fIdx_neg]
        intro h
        have := h (row3 r) (List.mem_map.2 ⟨r, by rw [hr']; exact List.getElem_mem hil, rfl⟩)
        rw [hb] at this
        cases this
      rw [hrb] at l4
      have cont : isBad m (row3 r) = false → ∀ t' : Tm, t' 1 = x → t' 2 = ptr H.next → t' 5 = iv iN → ∃ m', m' < k + 1 ∧ InvHd H HD x m rs m' t' (rdy H2) := by
        intro hb t' g1 g2 g5
        refine ⟨k, by omega, iN, by omega, g1, g2, g5, fun j hj hji => ?_, o2⟩
        by_cases e : j = i
        · subst e; rw [← hr']; exact hb
        · exact hno j hj (by omega)
      have t1' := t1
      by_cases f1 : r.1 < 0
      · have hb : isBad m (row3 r) = true := by
          have : ¬ 0 ≤ r.1 := by omega
          simp [isBad, row3, this]
        rw [bad hb]
        simp [L42_1, t5, t2, l4, e1, hil, hld, st, ld0, f1]
        exact oH2
      · by_cases f2 : (m.length : Int) ≤ r.1
        · have hb : isBad m (row3 r) = true := by
            have : ¬ r.1 < m.length := by omega
            simp [isBad, row3, this]
          rw [bad hb]
          rw [hxl] at t1
          simp [L42_1, t5, t2, l4, e1, hil, hld, st, ld0, f1, t1, f2]
          exact oH2
        · obtain ⟨j, hj⟩ : ∃ j : Nat, r.1 = j := ⟨r.1.toNat, by omega⟩
          have hjm : j < m.length := by omega
          obtain ⟨bx, offx, cx, hxb, ldx⟩ := (hx.keep hw bH2 oH2).at hjm
          rw [hj] at ld0 f1 f2
          rw [hxb] at t1
          have hm0 : m.getD r.1.toNat 0 = m[j] := by rw [hj]; simp [List.getD, hjm]
          by_cases he : m[j] = r.2.1
          · have hb : isBad m (row3 r) = false := by
              have g1 : 0 ≤ r.1 := by omega
              have g2 : r.1 < m.length := by omega
              have g3 : (m.getD r.1.toNat 0 == r.2.1) = true := by rw [hm0]; simpa using he
              simp only [isBad, row3, g1, g2, decide_true, Bool.true_and, g3, Bool.not_true]
            have hbb : (m[j] != r.2.1) = false := by simpa using he
            have f2' : ¬ m.length ≤ j := by omega
            simp [L42_1, t5, t2, l4, e1, hil, hld, st, ld0, f2', t1, hjm, ldx, ld1, hbb, e4]
            exact cont hb _ (by simp [t1']) (by simp [t2]) (by simp)
          · have hb : isBad m (row3 r) = true := by
              have g3 : (m.getD r.1.toNat 0 == r.2.1) = false := by rw [hm0]; simpa using he
              simp only [isBad, row3, g3, Bool.and_false, Bool.not_false]
            have hbb : (m[j] != r.2.1) = true := by simpa using he
            have f2' : ¬ m.length ≤ j := by omega
            rw [bad hb]
            simp [L42_1, t5, t2, l4, e1, hil, hld, st, ld0, f2', t1, hjm, ldx, ld1, hbb]
            exact oH2
end Go.Proofs.Ytjpdoflmjokplaa
