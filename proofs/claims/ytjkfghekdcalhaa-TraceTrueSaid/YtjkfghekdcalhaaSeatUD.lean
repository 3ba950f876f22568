/-
  Chapter 27: two results that are the same. Chapter 27: plainly: what is judged is what the tasks do one behind the other. Chapter 27: TraceTrue.
-/
import Derived.Test.YtjkfghekdcalhaaSeatUA
import Derived.Test.YtjkfghekdcalhaaSeatKA
namespace Go.Proofs.Ytjkfghekdcalhaa
open Go.Ot Go.RowKit
open R14 (ci)
set_option linter.unusedSimpArgs false
set_option linter.unusedVariables false
set_option maxRecDepth 100000 in
theorem eqFa (a b c : Int) (w : World) : (Op.equal 35 (.agg #[iv a, iv b, iv c]) (.agg #[iv a, iv b, iv c])).run Try.prog w = .ok true w := by
  have hd : ∀ a b, Op.equal 35 a b = Op.equalIn (9999 + 1) 35 a b := fun _ _ => rfl
  have hf : ∃ f1 f2 f3 : Field, Try.prog.fieldsOf 35 = #[f1, f2, f3] ∧ f1.name ≠ "_" ∧ f2.name ≠ "_" ∧ f3.name ≠ "_" ∧ f1.offset = 0 ∧ f2.offset = 1 ∧ f3.offset = 2 ∧ Try.prog.underlying f1.type = some (.int .i64) ∧ Try.prog.underlying f2.type = some (.int .i64) ∧ Try.prog.underlying f3.type = some (.int .i64) ∧ Try.prog.plainKey f1.type = true ∧ Try.prog.plainKey f2.type = true ∧ Try.prog.plainKey f3.type = true ∧ Try.prog.underlying 35 = some (.struct #[f1, f2, f3]) := by
    unfold Program.fieldsOf
    rw [Try.underlying35]
    exact ⟨_, _, _, rfl, by decide, by decide, by decide, rfl, rfl, rfl, Try.underlying3, Try.underlying33, Try.underlying2, by kernel_rfl, by kernel_rfl, by kernel_rfl, rfl⟩
  obtain ⟨f1, f2, f3, hf, n1, n2, n3, o1, o2, o3, u1, u2, u3, k1, k2, k3, hu⟩ := hf
  rw [hd, run_equalIn_struct w 9999 35 _ _ (by rw [hf]; exact hu) (by kernel_rfl), hf]
  show (Op.eqFields 9999 #[iv a, iv b, iv c] #[iv a, iv b, iv c] [f1, f2, f3]).run Try.prog w = _
  rw [stepG (n := a) (m := a) w n1 k1 u1 (by rw [o1]; rfl) (by rw [o1]; rfl), if_pos rfl, stepG (n := b) (m := b) w n2 k2 u2 (by rw [o2]; rfl) (by rw [o2]; rfl), if_pos rfl, stepG (n := c) (m := c) w n3 k3 u3 (by rw [o3]; rfl) (by rw [o3]; rfl), if_pos rfl]
  rfl
def InvEq (x y : Value) (l : List Int) (H : Heap) (k : Nat) (t : Tm) (H1 : Heap) : Prop :=
  ∃ i : Nat, i + k = l.length ∧ t 0 = x ∧ t 1 = y ∧ t 12 = iv l.length ∧ t 13 = iv i ∧ H1 = H
theorem equal_T {H : Heap} {x y : Value} {l : List Int} (hx : Ints H .i64 x l) (hy : Ints H .i64 y l) (hl : l.length ≤ 100000000) : T Try.prog 24 [x, y] H (.bool true) H := by
  refine T_seen hm light24 rfl ?_
  obtain ⟨ax, cx, hxe⟩ := hx.len
  obtain ⟨ay, cy, hye⟩ := hy.len
  have lx : sLenL x = some (iv l.length) := by rw [hxe]; rfl
  have ly : sLenL y = some (iv l.length) := by rw [hye]; rfl
  simp [L24, lx, ly]
  refine loop_at (InvEq x y l H) l.length ?_ ?_
  · exact ⟨0, by omega, by simp, by simp, by simp, by simp, rfl⟩
  rintro k t1 H1 ⟨i, hik, u0, u1, u12, u13, rfl⟩
  cases k with
  | zero =>
    have ei : i = l.length := by omega
    simp [L24_1, u12, u13, ei]
  | succ k =>
    have hi : i < l.length := by omega
    have hiI : (i : Int) < (l.length : Int) := by omega
    have e4 : IntKind.i64.wrap ((i : Int) + 1) = ((i + 1 : Nat) : Int) := by rw [w64 _ (by omega)]; omega
    obtain ⟨b1, o1, c1, hx1, ldx⟩ := hx.at hi
    obtain ⟨b2, o2, c2, hy1, ldy⟩ := hy.at hi
    have u0' := u0.trans hx1
    have u1' := u1.trans hy1
    simp [L24_1, u12, u13, hi, hiI, u0', u1', ldx, ldy, e4]
    exact ⟨k, by omega, i + 1, by omega, by simp [u0, ← hx1], by simp [u1, ← hy1], by simp [u12], by simp, rfl⟩
def InvRo (x y : Value) (l : List Int) (H : Heap) (k : Nat) (t : Tm) (H1 : Heap) : Prop :=
  ∃ i : Nat, i + k = l.length ∧ t 0 = x ∧ t 1 = y ∧ t 5 = iv i ∧ H1 = H
theorem row_T {H : Heap} {x y : Value} {l : List Int} (hx : Ints H .i64 x l) (hy : Ints H .i64 y l) (hl : l.length ≤ 100000000) : T Try.prog 18 [x, y] H (.bool true) H := by
  refine T_seen hm light18 rfl ?_
  obtain ⟨ax, cx, hxe⟩ := hx.len
  obtain ⟨ay, cy, hye⟩ := hy.len
  have lx : sLenL x = some (iv l.length) := by rw [hxe]; rfl
  have ly : sLenL y = some (iv l.length) := by rw [hye]; rfl
  simp [L18, lx, ly]
  refine loop_at (InvRo x y l H) l.length ?_ ?_
  · exact ⟨0, by omega, by simp, by simp, by simp, rfl⟩
  rintro k t1 H1 ⟨i, hik, u0, u1, u5, rfl⟩
  cases k with
  | zero =>
    have ei : i = l.length := by omega
    simp [L18_1, u0, u5, lx, ei]
  | succ k =>
    have hi : i < l.length := by omega
    have hiI : (i : Int) < (l.length : Int) := by omega
    have e4 : IntKind.i64.wrap ((i : Int) + 1) = ((i + 1 : Nat) : Int) := by rw [w64 _ (by omega)]; omega
    obtain ⟨b1, o1, c1, hx1, ldx⟩ := hx.at hi
    obtain ⟨b2, o2, c2, hy1, ldy⟩ := hy.at hi
    have u0' := u0.trans hx1
    have u1' := u1.trans hy1
    simp [L18_1, u5, u0', hi, hiI, u1', ldx, ldy, e4]
    exact ⟨k, by omega, i + 1, by omega, by simp [u0, ← hx1], by simp [u1, ← hy1], by simp, rfl⟩
/-- A result's value, and what can be read of it. -/
structure Rd3 (H : Heap) (S : BS) (x0 x1 x2 : Value) : Prop where
  m : Ints H .i64 x0 S.mem
  o : Ints H .i64 x1 S.outs
  r : Ints H .i64 x2 S.reds
theorem Rd3.on {H H' : Heap} (hw : H.WF) {S : BS} {x0 x1 x2 : Value} (h : Rd3 H S x0 x1 x2) (o : On H H') : Rd3 H' S x0 x1 x2 := ⟨h.m.keep hw o.base o.keep, h.o.keep hw o.base o.keep, h.r.keep hw o.base o.keep⟩
theorem foldSame_T {H : Heap} (hw : H.WF) {S : BS} {x0 x1 x2 y0 y1 y2 : Value} (hx : Rd3 H S x0 x1 x2) (hy : Rd3 H S y0 y1 y2) (lm : S.mem.length ≤ 1000) (lo : S.outs.length ≤ 10000000) (lr : S.reds.length ≤ 1000) :
    T Try.prog 13 [.agg (resC x0 x1 x2 S).toArray, .agg (resC y0 y1 y2 S).toArray] H (.bool true) H := by
  refine T_seen hm light13 rfl ?_
  obtain ⟨HA, hHA⟩ : ∃ HA, HA = H.new 37 7 (resC x0 x1 x2 S) := ⟨_, rfl⟩
  have onA : On H HA := by rw [hHA]; exact (On.refl hw).new _ _ _
  have vA : Vr HA H.next 37 7 (resC x0 x1 x2 S) := by rw [hHA]; exact Vr.mk' hw _ _ _
  have nA : HA.next = H.next + 1 := by rw [hHA]; rfl
  obtain ⟨HB, hHB⟩ : ∃ HB, HB = HA.new 37 7 (resC y0 y1 y2 S) := ⟨_, rfl⟩
  have onB : On HA HB := by rw [hHB]; exact (On.refl onA.wf).new _ _ _
  have vB : Vr HB (H.next + 1) 37 7 (resC y0 y1 y2 S) := by rw [hHB, ← nA]; exact Vr.mk' onA.wf _ _ _
  have onHB := onA.trans onB
  have vAB := vA.on onA.wf onB
  have hHA2 : H.new 37 7 [x0, x1, x2, iv S.fa, iv S.fo, iv S.fv, iv S.count] = HA := hHA.symm
  have hHB2 : HA.new 37 7 [y0, y1, y2, iv S.fa, iv S.fo, iv S.fv, iv S.count] = HB := hHB.symm
  have gx := hx.on hw onHB
  have gy := hy.on hw onHB
  have a0 : HB.load ⟨H.next, 0, none⟩ = some x0 := vAB.load 0
  have a1 : HB.load ⟨H.next, 1, none⟩ = some x1 := vAB.load 1
  have a2 : HB.load ⟨H.next, 2, none⟩ = some x2 := vAB.load 2
  have a6 : HB.load ⟨H.next, 6, none⟩ = some (iv S.count) := vAB.load 6
  have b0 : HB.load ⟨H.next + 1, 0, none⟩ = some y0 := vB.load 0
  have b1 : HB.load ⟨H.next + 1, 1, none⟩ = some y1 := vB.load 1
  have b2 : HB.load ⟨H.next + 1, 2, none⟩ = some y2 := vB.load 2
  have b6 : HB.load ⟨H.next + 1, 6, none⟩ = some (iv S.count) := vB.load 6
  have f3 : ∀ {b : Nat} {z0 z1 z2 : Value}, Vr HB b 37 7 (resC z0 z1 z2 S) → HB.loadN ⟨b, 3, none⟩ 0 3 = some [iv S.fa, iv S.fo, iv S.fv] := fun {b z0 z1 z2} v => by
    exact loadN_cells (H := HB) (b := b) (off := 3) (l := [iv S.fa, iv S.fo, iv S.fv]) (i := 0) (fun j hj => by
      have hj3 : j < 3 := hj
      match j, hj3 with
      | 0, _ => exact v.load 3
      | 1, _ => exact v.load 4
      | 2, _ => exact v.load 5)
  have l3 := f3 vAB
  have m3 := f3 vB
  have e0 := equal_T gx.m gy.m (by omega)
  have e1 := equal_T gx.o gy.o (by omega)
  have e2 := equal_T gx.r gy.r (by omega)
  simp [L13, hHA2, nA, hHB2, l3, m3]
  refine goE_of (by rfl) (by rfl) (eqFa S.fa S.fo S.fv) ?_
  simp [a6, b6, a0, b0]
  refine goT_of e0 ?_
  simp [a1, b1]
  refine goT_of e1 ?_
  simp [a2, b2]
  refine goT_of e2 ?_
  simp
  exact onHB.keep
theorem refSame_T {H : Heap} (hw : H.WF) {S : BS} {x0 x1 x2 y0 y1 y2 : Value} (hx : Rd3 H S x0 x1 x2) (hy : Rd3 H S y0 y1 y2) (lm : S.mem.length ≤ 1000) (lo : S.outs.length ≤ 10000000) (lr : S.reds.length ≤ 1000) :
    T Try.prog 10 [.agg (resC x0 x1 x2 S).toArray, .agg (resC y0 y1 y2 S).toArray] H (.bool true) H := by
  refine T_seen hm light10 rfl ?_
  obtain ⟨HA, hHA⟩ : ∃ HA, HA = H.new 37 7 (resC x0 x1 x2 S) := ⟨_, rfl⟩
  have onA : On H HA := by rw [hHA]; exact (On.refl hw).new _ _ _
  have vA : Vr HA H.next 37 7 (resC x0 x1 x2 S) := by rw [hHA]; exact Vr.mk' hw _ _ _
  have nA : HA.next = H.next + 1 := by rw [hHA]; rfl
  obtain ⟨HB, hHB⟩ : ∃ HB, HB = HA.new 37 7 (resC y0 y1 y2 S) := ⟨_, rfl⟩
  have onB : On HA HB := by rw [hHB]; exact (On.refl onA.wf).new _ _ _
  have vB : Vr HB (H.next + 1) 37 7 (resC y0 y1 y2 S) := by rw [hHB, ← nA]; exact Vr.mk' onA.wf _ _ _
  have onHB := onA.trans onB
  have vAB := vA.on onA.wf onB
  have hHA2 : H.new 37 7 [x0, x1, x2, iv S.fa, iv S.fo, iv S.fv, iv S.count] = HA := hHA.symm
  have hHB2 : HA.new 37 7 [y0, y1, y2, iv S.fa, iv S.fo, iv S.fv, iv S.count] = HB := hHB.symm
  have gx := hx.on hw onHB
  have gy := hy.on hw onHB
  have a0 : HB.load ⟨H.next, 0, none⟩ = some x0 := vAB.load 0
  have a1 : HB.load ⟨H.next, 1, none⟩ = some x1 := vAB.load 1
  have a2 : HB.load ⟨H.next, 2, none⟩ = some x2 := vAB.load 2
  have a6 : HB.load ⟨H.next, 6, none⟩ = some (iv S.count) := vAB.load 6
  have b0 : HB.load ⟨H.next + 1, 0, none⟩ = some y0 := vB.load 0
  have b1 : HB.load ⟨H.next + 1, 1, none⟩ = some y1 := vB.load 1
  have b2 : HB.load ⟨H.next + 1, 2, none⟩ = some y2 := vB.load 2
  have b6 : HB.load ⟨H.next + 1, 6, none⟩ = some (iv S.count) := vB.load 6
  have f3 : ∀ {b : Nat} {z0 z1 z2 : Value}, Vr HB b 37 7 (resC z0 z1 z2 S) → HB.loadN ⟨b, 3, none⟩ 0 3 = some [iv S.fa, iv S.fo, iv S.fv] := fun {b z0 z1 z2} v => by
    exact loadN_cells (H := HB) (b := b) (off := 3) (l := [iv S.fa, iv S.fo, iv S.fv]) (i := 0) (fun j hj => by
      have hj3 : j < 3 := hj
      match j, hj3 with
      | 0, _ => exact v.load 3
      | 1, _ => exact v.load 4
      | 2, _ => exact v.load 5)
  have l3 := f3 vAB
  have m3 := f3 vB
  have e0 := row_T gx.m gy.m (by omega)
  have e1 := row_T gx.o gy.o (by omega)
  have e2 := row_T gx.r gy.r (by omega)
  simp [L10, hHA2, nA, hHB2, a0, b0]
  refine goT_of e0 ?_
  simp [a1, b1]
  refine goT_of e1 ?_
  simp [a2, b2]
  refine goT_of e2 ?_
  simp [l3, m3]
  refine goE_of (by rfl) (by rfl) (eqFa S.fa S.fo S.fv) ?_
  simp [a6, b6]
  exact onHB.keep
end Go.Proofs.Ytjkfghekdcalhaa
namespace Go.Proofs.Ytjkfghekdcalhaa
open Go.Ot Go.RowKit
open R14 (ci ontoN)
set_option linter.unusedSimpArgs false
set_option linter.unusedVariables false
/-- What can be seen of it. -/
def vis (S : BS) : BS := { S with tries := [] }
theorem upR_snoc {J : Jb} : ∀ (k a : Nat) (S : BS), (upR J k a S).fo = 0 → upR J (k + 1) a S = afterV J (upR J k a S) ((a + k : Nat) : Int) (taskV J ((a + k : Nat) : Int) (upR J k a S).mem)
  | 0, a, S, h => by
    show (if (afterV J S a (taskV J a S.mem)).fo ≠ 0 then afterV J S a (taskV J a S.mem) else afterV J S a (taskV J a S.mem)) = _
    rw [ite_self]
    rfl
  | k + 1, a, S, h => by
    rw [upR]
    rw [upR] at h
    split at h
    · rename_i h1; exact absurd h h1
    · rename_i h1
      rw [if_neg h1, upR_snoc k (a + 1) _ h, show upR J (k + 1) a S = upR J k (a + 1) (afterV J S a (taskV J a S.mem)) by rw [upR, if_neg h1], show a + 1 + k = a + (k + 1) by omega]
theorem upR_stop {J : Jb} : ∀ (k m a : Nat) (S : BS), S.fo = 0 → (upR J k a S).fo ≠ 0 → k ≤ m → upR J m a S = upR J k a S
  | 0, m, a, S, h0, h, _ => absurd h0 h
  | k + 1, 0, a, S, h0, h, hm => by omega
  | k + 1, m + 1, a, S, h0, h, hm => by
    rw [upR, upR]
    rw [upR] at h
    split at h
    · rename_i h1; rw [if_pos h1, if_pos h1]
    · rename_i h1
      rw [if_neg h1, if_neg h1]
      exact upR_stop k m (a + 1) _ (by simpa using h1) h (by omega)
theorem after_vis {J : Jb} {S U : BS} (h : vis S = vis U) (age : Int) (V : Ms × Wl) : vis (afterV J S age V) = vis (afterV J U age V) := by
  unfold vis at h
  simp only [BS.mk.injEq] at h
  obtain ⟨h1, h2, h3, h4, h5, h6, h7, _⟩ := h
  unfold afterV vis
  split <;> simp [h1, h2, h3, h4, h5, h6, h7]
/-- What stands as long as all is judged. -/
def GJ (J : Jb) (n : Int) (S : BS) : Prop :=
  (S.fo = 0 ∧ (S.count : Int) ≤ n ∧ vis S = vis (upR J S.count 0 (beginS J))) ∨ (S.fo ≠ 0 ∧ (S.count : Int) < n ∧ ∀ m : Nat, S.count < m → vis S = vis (upR J m 0 (beginS J)))
theorem GJ.tset {J : Jb} {n : Int} {S : BS} (h : GJ J n S) (a : Nat) (t : Option Tr) : GJ J n { S with tries := S.tries.set a t } := h
theorem vis_fo {S U : BS} (h : vis S = vis U) : S.fo = U.fo ∧ S.mem = U.mem ∧ S.count = U.count := by
  unfold vis at h
  simp only [BS.mk.injEq] at h
  obtain ⟨h1, h2, h3, h4, h5, h6, h7, _⟩ := h
  exact ⟨h5, h1, h7⟩
theorem step_judge {J : Jb} {n : Int} {S S' : BS} {x : Ev} (g : GJ J n S) (hs : stepE true J n S x = some S') : GJ J n S' := by
  unfold stepE at hs
  split at hs
  · cases hs
  rename_i hc0
  have hf : S.fo = 0 := by
    by_cases h : S.fo = 0
    · exact h
    · exact absurd (.inl h) hc0
  have hlt : x.age < n := by
    by_cases h : n ≤ x.age
    · exact absurd (.inr (.inr (.inl h))) hc0
    · omega
  rcases g with ⟨_, hcn, hvis⟩ | ⟨h, _⟩
  case inr => exact absurd hf h
  have g : GJ J n S := .inl ⟨hf, hcn, hvis⟩
  obtain ⟨hUf, hUm, hUc⟩ := vis_fo hvis
  have snoc := upR_snoc S.count 0 (beginS J) (by rw [← hUf]; exact hf)
  rw [Nat.zero_add, ← hUm] at snoc
  have key : ∀ V, V = taskV J S.count S.mem → vis (upR J (S.count + 1) 0 (beginS J)) = vis (afterV J S S.count V) := fun V hV => by
    rw [snoc, hV]; exact (after_vis hvis _ _).symm
  unfold stepR at hs
  generalize x.age.toNat = a at hs
  split at hs
  · split at hs
    · cases hs; exact g.tset _ _
    · cases hs
  split at hs
  · rename_i t ht
    split at hs
    · split at hs
      · cases hs; exact g.tset _ _
      · cases hs
    split at hs
    · split at hs
      · cases hs; exact g.tset _ _
      · cases hs
    split at hs
    · cases hs; exact g.tset _ _
    split at hs
    · split at hs
      · cases hs; exact g.tset _ _
      · cases hs
    split at hs
    · cases hs; exact g.tset _ _
    split at hs
    · split at hs
      · rename_i hc
        cases hs
        obtain ⟨e1, _, e3⟩ := hc
        have e3 := e3 rfl
        obtain ⟨V, hV⟩ : ∃ V, V = taskV J S.count S.mem := ⟨_, rfl⟩
        rw [e1, ← hV] at e3
        unfold sameV at e3
        obtain ⟨o1, o2, o3, o4⟩ := of_decide_eq_true e3
        have k1 := key V hV
        left
        refine ⟨hf, by show ((S.count + 1 : Nat) : Int) ≤ n; omega, ?_⟩
        show vis (commitV J S a t) = vis (upR J (S.count + 1) 0 (beginS J))
        rw [k1]
        unfold afterV commitV vis
        rw [if_neg (by simp [o1])]
        simp [o2, o3, o4]
      · cases hs
    split at hs
    · split at hs
      · rename_i hc
        cases hs
        obtain ⟨e1, _, a2, a5, e3⟩ := hc
        have e3 := e3 rfl
        obtain ⟨V, hV⟩ : ∃ V, V = taskV J S.count S.mem := ⟨_, rfl⟩
        rw [e1, ← hV] at e3
        obtain ⟨o1, o2⟩ := e3
        have k1 := key V hV
        have av : afterV J S S.count V = { S with fa := S.count, fo := x.at', fv := x.value } := by
          unfold afterV
          rw [if_pos (by omega), o1, o2]
        have fo1 : (upR J (S.count + 1) 0 (beginS J)).fo ≠ 0 := by
          rw [← (vis_fo k1.symm).1, av]
          show x.at' ≠ 0
          omega
        right
        refine ⟨by show x.at' ≠ 0; omega, by show (S.count : Int) < n; omega, fun m hm => ?_⟩
        have hm' : S.count + 1 ≤ m := hm
        rw [upR_stop (S.count + 1) m 0 (beginS J) rfl fo1 hm', k1, av, e1]
      · cases hs
    · cases hs
  · cases hs
theorem run_end (wh : Bool) (J : Jb) (n : Int) : ∀ (l : List Ev) (S : BS) (i : Nat), (∃ S', runE wh J n S l i = (0, 0, some S')) ∨ (∃ j, i ≤ j ∧ j < i + l.length ∧ runE wh J n S l i = (j, 270, none))
  | [], S, i => .inl ⟨S, rfl⟩
  | x :: l, S, i => by
    rw [runE]
    cases hs : stepE wh J n S x with
    | none => exact .inr ⟨i, Nat.le_refl _, by simp, rfl⟩
    | some S' =>
      simp only
      rcases run_end wh J n l S' (i + 1) with h | ⟨j, h1, h2, h3⟩
      · exact .inl h
      · exact .inr ⟨j, by omega, by simp; omega, h3⟩
theorem run_judge {J : Jb} {n : Int} : ∀ (l : List Ev) (S : BS) (i : Nat) (S' : BS), GJ J n S → SOk J i S → runE true J n S l i = (0, 0, some S') → GJ J n S' ∧ SOk J (i + l.length) S'
  | [], S, i, S', g, ok, h => by
    rw [runE] at h
    cases h
    exact ⟨g, ok⟩
  | x :: l, S, i, S', g, ok, h => by
    rw [runE] at h
    cases hs : stepE true J n S x with
    | none => rw [hs] at h; cases h
    | some S1 =>
      rw [hs] at h
      have := run_judge l S1 (i + 1) S' (step_judge g hs) (step_ok ok hs) h
      rw [show i + (x :: l).length = i + 1 + l.length by simp; omega]
      exact this
theorem cnt_nn {J : Jb} (h : (cntP J.S).2 = 0) : 0 ≤ (cntP J.S).1 := by
  unfold cntP at h ⊢
  split
  · split
    · exact Int.le_refl _
    · split
      · exact Int.le_refl _
      · exact wayN_ge _
  · split
    · rename_i h2
      split
      · exact Int.le_refl _
      · exact Int.mul_nonneg h2.2.2.2.2.1 (by omega)
    · exact Int.le_refl _
theorem begin_judge {J : Jb} (hv : validE J = 0) : GJ J (cntP J.S).1 (beginS J) := by
  left
  exact ⟨rfl, by show (0 : Int) ≤ _; exact cnt_nn (JV.of hv).c, rfl⟩
end Go.Proofs.Ytjkfghekdcalhaa
namespace Go.Proofs.Ytjkfghekdcalhaa
open Go.Ot Go.RowKit
open R14 (ci ontoN)
set_option linter.unusedSimpArgs false
set_option linter.unusedVariables false
/-- A result of which nothing can be seen. -/
def Z0 : BS := ⟨[], [], [], 0, 0, 0, 0, []⟩
theorem z0_rd (H : Heap) : Rd3 H Z0 (.slice none 0 0) (.slice none 0 0) (.slice none 0 0) := ⟨Own.ints (Own.nil H 2 1), Own.ints (Own.nil H 2 1), Own.ints (Own.nil H 2 1)⟩
theorem true_T {H : Heap} (hw : H.WF) {J : Jb} (jb : Jb0 H J) {y : Value} {l : List Ev} (hy : Rws H 6 y (l.map evC)) : T Try.prog 4 [.agg (jobC J).toArray, y] H (.bool true) H := by
  refine T_seen hm light4 rfl ?_
  obtain ⟨HA, hHA⟩ : ∃ HA, HA = H.new 29 11 (jobC J) := ⟨_, rfl⟩
  have onA : On H HA := by rw [hHA]; exact (On.refl hw).new _ _ _
  have vA : Vr HA H.next 29 11 (jobC J) := by rw [hHA]; exact Vr.mk' hw _ _ _
  have nA : HA.next = H.next + 1 := by rw [hHA]; rfl
  have wA := onA.wf
  have lA := (JL.of vA).lA
  have hHA2 : H.new 29 11 [iv J.words, J.xc, J.xr, iv J.fuel, iv J.S.kind, iv J.S.lo, iv J.S.hi, iv J.S.step, iv J.S.items, iv J.S.stages, J.xk] = HA := hHA.symm
  have gT := great_T wA (jb.on hw onA)
  obtain ⟨ay, cy, hye⟩ := hy.len
  rw [List.length_map] at hye
  have ly : sLenL y = some (iv l.length) := by rw [hye]; rfl
  cases hg : greatV J with
  | true =>
    rw [hg] at gT
    simp [L4, hHA2, lA]
    refine goT_of gT ?_
    simp
    exact onA.keep
  | false =>
  rw [hg] at gT
  by_cases hl : 300 < l.length
  · have hlI : (300 : Int) < (l.length : Int) := by omega
    simp [L4, hHA2, lA]
    refine goT_of gT ?_
    simp [ly, hl, hlI]
    exact onA.keep
  have hlI : ¬ (300 : Int) < (l.length : Int) := by omega
  have ok := ok_of jb hg
  have okA := ok.on hw onA
  have hyA := Rws.keep hw onA.base onA.keep hy
  have k1 := judge_E wA okA hyA (by omega)
  obtain ⟨E, hE⟩ : ∃ E, E = lookV true J l := ⟨_, rfl⟩
  rw [← hE] at k1
  -- what is answered
  have cases3 : (E.2.2 = none ∧ E.2.1 ≠ 0 ∧ (E.2.1 = 270 → (E.1 : Int) < l.length)) ∨ (validE J = 0 ∧ ∃ S, E = (0, 0, some S) ∧ GJ J (cntP J.S).1 S ∧ SOk J l.length S) := by
    rw [hE]
    unfold lookV
    by_cases hv : validE J = 0
    · rw [if_neg (by simpa using hv)]
      rcases run_end true J (cntP J.S).1 l (beginS J) 0 with ⟨S', h⟩ | ⟨j, h1, h2, h⟩
      · right
        obtain ⟨g, s⟩ := run_judge l (beginS J) 0 S' (begin_judge hv) (begin_ok (JV.of hv).w.1) h
        exact ⟨hv, S', h, g, by simpa using s⟩
      · left
        rw [h]
        exact ⟨rfl, by simp, fun _ => by simp only; omega⟩
    · rw [if_pos hv]
      left
      exact ⟨rfl, hv, fun h => absurd h (valid_ne J)⟩
  simp [L4, hHA2, lA]
  refine goT_of gT ?_
  simp [ly, hl, hlI, lA]
  refine goA_of wA k1 ?_
  rintro o H1 ⟨on1, x0, x1, x2, a, b, c, d, rfl, hS, hN⟩ w1 b1 n1
  have st := new_storeA w1 37 7 [.slice none 0 0, .slice none 0 0, .slice none 0 0, iv 0, iv 0, iv 0, iv 0] [x0, x1, x2, iv a, iv b, iv c, iv d] rfl rfl (by decide)
  obtain ⟨pr, hpr⟩ : ∃ r, r = H1.next := ⟨_, rfl⟩
  obtain ⟨H2, hH2⟩ : ∃ H2, H2 = H1.new 37 7 [x0, x1, x2, iv a, iv b, iv c, iv d] := ⟨_, rfl⟩
  have on2 : On H1 H2 := by rw [hH2]; exact (On.refl w1).new _ _ _
  have v2 : Vr H2 pr 37 7 [x0, x1, x2, iv a, iv b, iv c, iv d] := by rw [hH2, hpr]; exact Vr.mk' w1 _ _ _
  rw [← hH2, ← hpr] at st
  have onA2 := on1.trans on2
  have onH2 := onA.trans onA2
  have w2 := onH2.wf
  have ld2 : H2.loadN ⟨pr, 0, none⟩ 0 7 = some [x0, x1, x2, iv a, iv b, iv c, iv d] := v2.loadA rfl
  have al2 := alive_T H2
  rcases cases3 with ⟨en, ene, eat⟩ | ⟨hv, S, hES, gj, sok⟩
  · obtain ⟨rfl, rfl, rfl, rfl, rfl, rfl, rfl⟩ := hN en
    have sT := refSame_T w2 (z0_rd H2) (z0_rd H2) (by decide) (by decide) (by decide)
    have sT' : T Try.prog 10 [.agg #[.slice none 0 0, .slice none 0 0, .slice none 0 0, iv 0, iv 0, iv 0, iv 0], .agg #[.slice none 0 0, .slice none 0 0, .slice none 0 0, iv 0, iv 0, iv 0, iv 0]] H2 (.bool true) H2 := sT
    have e0 : (E.2.1 != 0) = true := bne_iff_ne.2 ene
    have i0 : (0 : Int) ≤ (E.1 : Int) := by omega
    by_cases h2 : E.2.1 = 270
    · have e2 : (E.2.1 != 270) = false := by simp [h2]
      have i1 := eat h2
      simp [← hpr, st, e0, e2, i0, i1, ly, ld2]
      refine goT_of sT' ?_
      simp
      refine goT_of al2 ?_
      simp
      exact onH2.keep
    · have e2 : (E.2.1 != 270) = true := bne_iff_ne.2 h2
      simp [← hpr, st, e0, e2, ld2]
      refine goT_of sT' ?_
      simp
      refine goT_of al2 ?_
      simp
      exact onH2.keep
  -- all is judged
  obtain ⟨rfl, rfl, rfl, rfl, o0, o1, o2, nb⟩ := hS S (by rw [hES])
  have eE : E.2.1 = 0 := by rw [hES]
  have jv := JV.of hv
  have lA2 := (JL.of (vA.on wA onA2)).lA
  have ok2 := ok.on hw onH2
  have hcn : (S.count : Int) ≤ (cntP J.S).1 := by
    rcases gj with ⟨_, h, _⟩ | ⟨_, h, _⟩
    · exact h
    · omega
  have uE := upto_E w2 ok2 hv hcn
  have c2' : H2.load ⟨pr, 6, none⟩ = some (iv S.count) := v2.load 6
  have rd2 : Rd3 H2 S x0 x1 x2 := ⟨Own.ints (Own.on w1 o0 on2), Own.ints (Own.on w1 o1 on2), Own.ints (Own.on w1 o2 on2)⟩
  have lm : S.mem.length ≤ 1000 := by have := sok.mem; have := jv.w; omega
  have lo : S.outs.length ≤ 10000000 := by
    have := sok.outs
    have : l.length * l.length ≤ 300 * 300 := Nat.mul_le_mul (by omega) (by omega)
    omega
  have lr : S.reds.length ≤ 1000 := by have := sok.reds; have := ok.nr; omega
  obtain ⟨U, hU⟩ : ∃ U, U = upR J S.count 0 (beginS J) := ⟨_, rfl⟩
  rw [← hU] at uE
  simp [← hpr, st, eE, lA2, c2']
  refine goA_of w2 uE ?_
  rintro o H3 ⟨on3, y0, y1, y2, rfl, q0, q1, q2, nq⟩ w3 b3 n3
  have st3 := new_storeA w3 37 7 [.slice none 0 0, .slice none 0 0, .slice none 0 0, iv 0, iv 0, iv 0, iv 0] [y0, y1, y2, iv U.fa, iv U.fo, iv U.fv, iv U.count] rfl rfl (by decide)
  obtain ⟨pw, hpw⟩ : ∃ r, r = H3.next := ⟨_, rfl⟩
  obtain ⟨H4, hH4⟩ : ∃ H4, H4 = H3.new 37 7 [y0, y1, y2, iv U.fa, iv U.fo, iv U.fv, iv U.count] := ⟨_, rfl⟩
  have on4 : On H3 H4 := by rw [hH4]; exact (On.refl w3).new _ _ _
  have v4 : Vr H4 pw 37 7 [y0, y1, y2, iv U.fa, iv U.fo, iv U.fv, iv U.count] := by rw [hH4, hpw]; exact Vr.mk' w3 _ _ _
  rw [← hH4, ← hpw] at st3
  have on24 := on3.trans on4
  have onH4 := onH2.trans on24
  have w4 := onH4.wf
  have vr4 := v2.on w2 on24
  have f4 : H4.load ⟨pr, 4, none⟩ = some (iv S.fo) := vr4.load 4
  have ld4 : H4.loadN ⟨pr, 0, none⟩ 0 7 = some [x0, x1, x2, iv S.fa, iv S.fo, iv S.fv, iv S.count] := vr4.loadA rfl
  have rd4 := rd2.on w2 on24
  have tell : ∀ {H' : Heap} {U' : BS} {z0 z1 z2 : Value}, vis S = vis U' → Own H' 2 1 U'.mem.length (ci U'.mem) z0 → Own H' 2 1 U'.outs.length (ci U'.outs) z1 → Own H' 2 1 U'.reds.length (ci U'.reds) z2 → Rd3 H' S z0 z1 z2 ∧ [z0, z1, z2, iv U'.fa, iv U'.fo, iv U'.fv, iv U'.count] = resC z0 z1 z2 S := fun {H' U' z0 z1 z2} h g0 g1 g2 => by
    unfold vis at h
    simp only [BS.mk.injEq] at h
    obtain ⟨h1, h2, h3, h4, h5, h6, h7, _⟩ := h
    exact ⟨⟨by rw [h1]; exact Own.ints g0, by rw [h2]; exact Own.ints g1, by rw [h3]; exact Own.ints g2⟩, by simp [resC, h4, h5, h6, h7]⟩
  rcases gj with ⟨hfo, _, hvis⟩ | ⟨hfo, hlt, hvis⟩
  · -- no error yet
    rw [← hU] at hvis
    obtain ⟨t1, t2⟩ := tell hvis (Own.on w3 q0 on4) (Own.on w3 q1 on4) (Own.on w3 q2 on4)
    have ld4w : H4.loadN ⟨pw, 0, none⟩ 0 7 = some (resC y0 y1 y2 S) := by rw [← t2]; exact v4.loadA rfl
    have sT := foldSame_T w4 rd4 t1 lm lo lr
    have e0 : (S.fo != 0) = false := by simp [hfo]
    simp [← hpw, st3, f4, e0, ld4, ld4w]
    refine goT_of sT ?_
    simp
    refine goT_of (alive_T H4) ?_
    simp
    exact onH4.keep
  · -- an error
    obtain ⟨many, hmany⟩ : ∃ many : Nat, (many : Int) = (cntP J.S).1 := ⟨(cntP J.S).1.toNat, by omega⟩
    have hvis := hvis many (by omega)
    have lA4 := (JL.of ((vA.on wA onA2).on w2 on24)).lA
    have rE := run_E w4 (ok.on hw onH4) hv hmany
    obtain ⟨U2, hU2⟩ : ∃ U2, U2 = upR J many 0 (beginS J) := ⟨_, rfl⟩
    rw [← hU2] at rE hvis
    have e0 : (S.fo != 0) = true := bne_iff_ne.2 hfo
    simp [← hpw, st3, f4, e0, lA4]
    refine goA_of w4 rE ?_
    rintro o H5 ⟨on5, z0, z1, z2, rfl, p0, p1, p2, np⟩ w5 b5 n5
    have v5 := v4.on w4 on5
    have s5 := v5.storeA (m := 7) (by decide) [z0, z1, z2, iv U2.fa, iv U2.fo, iv U2.fv, iv U2.count] rfl rfl
    obtain ⟨H6, hH6⟩ : ∃ H6, H6 = H5.put pw [z0, z1, z2, iv U2.fa, iv U2.fo, iv U2.fv, iv U2.count] := ⟨_, rfl⟩
    have v6 : Vr H6 pw 37 7 [z0, z1, z2, iv U2.fa, iv U2.fo, iv U2.fv, iv U2.count] := by rw [hH6]; exact v5.put _
    have lpw := w4.lt v4.bq
    have on36 : On H3 H6 := by rw [hH6]; exact (on4.trans on5).put (by omega) _
    have onH6 := (onH2.trans on3).trans on36
    have w6 := onH6.wf
    rw [← hH6] at s5
    have kp : ∀ {ety sz m : Nat} {cs : List Value} {y : Value} (h : Own H5 ety sz m cs y), (∀ b, blkOf y = some b → H4.next ≤ b) → Own H6 ety sz m cs y := fun h h1 => h.keep (by rw [hH6]; simp) (fun b hb => by have := h1 b hb; rw [hH6]; simp [show b ≠ pw by omega])
    obtain ⟨t1, t2⟩ := tell hvis (kp p0 (fun b hb => np b (.inl hb))) (kp p1 (fun b hb => np b (.inr (.inl hb)))) (kp p2 (fun b hb => np b (.inr (.inr hb))))
    have on26 := on3.trans on36
    have ld6 : H6.loadN ⟨pr, 0, none⟩ 0 7 = some [x0, x1, x2, iv S.fa, iv S.fo, iv S.fv, iv S.count] := (v2.on w2 on26).loadA rfl
    have ld6w : H6.loadN ⟨pw, 0, none⟩ 0 7 = some (resC z0 z1 z2 S) := by rw [← t2]; exact v6.loadA rfl
    have sT := foldSame_T w6 (rd2.on w2 on26) t1 lm lo lr
    simp [s5, ld6, ld6w]
    refine goT_of sT ?_
    simp
    refine goT_of (alive_T H6) ?_
    simp
    exact onH6.keep
set_option maxRecDepth 100000 in
theorem true_U {H : Heap} (hw : H.WF) {cs : List Value} (h0 : Rd Try.prog H 7 29 cs) {x1 : Value} (h1 : Rd Try.prog H 4 30 [x1]) : ∃ v H', T Try.prog 4 [.agg cs.toArray, x1] H v H' ∧ v = .bool true := by
  obtain ⟨J, rfl, hJ⟩ := rd_job (m := 2) cs h0
  obtain ⟨l, hl⟩ := rd_evs h1
  exact ⟨_, _, true_T hw hJ hl, rfl⟩
end Go.Proofs.Ytjkfghekdcalhaa
