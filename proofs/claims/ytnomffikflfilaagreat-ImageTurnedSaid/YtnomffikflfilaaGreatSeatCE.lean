/-
  Chapter 26: bounds of rounds, by both. Chapter 26: ScriptBounds. Chapter 26: openings of a run: its job, its config; ScriptBounds at every input. Chapter 26: ScriptRounds.
-/
import Derived.Test.YtnomffikflfilaaGreatSeatCA
import Derived.Test.YtnomffikflfilaaGreatOtZ
namespace Go.Proofs.YtnomffikflfilaaGreat
open Go.Ot Go.RowKit
set_option linter.unusedSimpArgs false
set_option linter.unusedVariables false
def mx0 (a : Int) : Int := if a < 0 then 0 else a
def timesV (a b : Int) : Int := if mx0 a ≠ 0 ∧ 9223372036854775807 / mx0 a < mx0 b then 9223372036854775807 else mx0 a * mx0 b
def plusV (a b : Int) : Int := if 9223372036854775807 - mx0 b < mx0 a then 9223372036854775807 else mx0 a + mx0 b
theorem mx0_ok {a : Int} (h : okW a) : 0 ≤ mx0 a ∧ mx0 a ≤ 9223372036854775807 := by
  unfold okW at h; unfold mx0; split <;> omega
theorem mm_max (a : Int) : sMM true (iv a) [iv 0] = some (iv (mx0 a)) := by
  simp [sMM, sMinMax, mx0]
theorem timesG_T {H : Heap} (a b : Int) (ha : okW a) (hb : okW b) : T Tryz.prog 71 [iv a, iv b] H (iv (timesV a b)) H := by
  refine T_eq hm light71 ?_
  have m1 := mm_max a
  have m2 := mm_max b
  have h1 := mx0_ok ha
  have h2 := mx0_ok hb
  unfold timesV
  obtain ⟨x, hx⟩ : ∃ x, x = mx0 a := ⟨_, rfl⟩
  obtain ⟨y, hy⟩ : ∃ x, x = mx0 b := ⟨_, rfl⟩
  rw [← hx] at m1 h1 ⊢
  rw [← hy] at m2 h2 ⊢
  by_cases h0 : x = 0
  · rw [if_neg (fun h => h.1 h0)]
    rw [h0] at m1 ⊢
    simp [L71, m1, m2]
  · have h0b : (x != 0) = true := by simpa using h0
    have qd : (9223372036854775807 : Int) / x ≤ 9223372036854775807 := Int.ediv_le_self _ (by decide)
    have qd0 : 0 ≤ (9223372036854775807 : Int) / x := Int.ediv_nonneg (by decide) (by omega)
    have sq : sBin .quo (.int .i64 9223372036854775807) (iv x) = some (iv (9223372036854775807 / x)) := by
      rw [sBin_quo, if_neg h0, Int.tdiv_eq_ediv_of_nonneg (by decide), w64 _ (by omega)]
    by_cases hov : 9223372036854775807 / x < y
    · rw [if_pos ⟨h0, hov⟩]
      simp [L71, m1, m2, h0b, h0, sq, hov]
    · rw [if_neg (fun h => hov h.2)]
      have hle : x * y ≤ 9223372036854775807 := by
        have := (Int.le_ediv_iff_mul_le (a := y) (b := 9223372036854775807) (c := x) (by omega)).1 (by omega)
        rw [Int.mul_comm]; exact this
      have hge : 0 ≤ x * y := Int.mul_nonneg h1.1 h2.1
      have wm : IntKind.i64.wrap (x * y) = x * y := w64 _ (by omega)
      simp [L71, m1, m2, h0b, h0, sq, hov, wm]
theorem plus_T {H : Heap} (a b : Int) (ha : okW a) (hb : okW b) : T Tryz.prog 70 [iv a, iv b] H (iv (plusV a b)) H := by
  refine T_eq hm light70 ?_
  have m1 := mm_max a
  have m2 := mm_max b
  have h1 := mx0_ok ha
  have h2 := mx0_ok hb
  unfold plusV
  obtain ⟨x, hx⟩ : ∃ x, x = mx0 a := ⟨_, rfl⟩
  obtain ⟨y, hy⟩ : ∃ x, x = mx0 b := ⟨_, rfl⟩
  rw [← hx] at m1 h1 ⊢
  rw [← hy] at m2 h2 ⊢
  have w1 : IntKind.i64.wrap (9223372036854775807 - y) = 9223372036854775807 - y := w64 _ (by omega)
  by_cases hov : 9223372036854775807 - y < x
  · rw [if_pos hov]
    simp [L70, m1, m2, w1, hov]
  · rw [if_neg hov]
    have w2 : IntKind.i64.wrap (x + y) = x + y := w64 _ (by omega)
    simp [L70, m1, m2, w1, hov, w2]
theorem timesV_ok {a b : Int} (ha : okW a) (hb : okW b) : 0 ≤ timesV a b ∧ timesV a b ≤ 9223372036854775807 := by
  have h1 := mx0_ok ha
  have h2 := mx0_ok hb
  unfold timesV
  split
  · omega
  · rename_i h
    refine ⟨Int.mul_nonneg h1.1 h2.1, ?_⟩
    by_cases h0 : mx0 a = 0
    · rw [h0]; omega
    · have hle : ¬ 9223372036854775807 / mx0 a < mx0 b := fun g => h ⟨h0, g⟩
      have := (Int.le_ediv_iff_mul_le (a := mx0 b) (b := 9223372036854775807) (c := mx0 a) (by omega)).1 (by omega)
      rw [Int.mul_comm]; exact this
theorem plusV_ok {a b : Int} (ha : okW a) (hb : okW b) : 0 ≤ plusV a b ∧ plusV a b ≤ 9223372036854775807 := by
  have h1 := mx0_ok ha
  have h2 := mx0_ok hb
  unfold plusV
  split <;> omega
/-- Small numbers' product. -/
theorem timesV_small {a b : Int} (ha : 0 ≤ a) (hb : 0 ≤ b) (h : a * b ≤ 9223372036854775807) : timesV a b = a * b := by
  have e1 : mx0 a = a := by unfold mx0; rw [if_neg (by omega)]
  have e2 : mx0 b = b := by unfold mx0; rw [if_neg (by omega)]
  unfold timesV
  rw [e1, e2, if_neg]
  rintro ⟨h0, h1⟩
  have := (Int.ediv_lt_iff_lt_mul (a := 9223372036854775807) (b := b) (c := a) (by omega)).1 h1
  rw [Int.mul_comm] at this
  omega
theorem plusV_small {a b : Int} (ha : 0 ≤ a) (hb : 0 ≤ b) (h : a + b ≤ 9223372036854775807) : plusV a b = a + b := by
  have e1 : mx0 a = a := by unfold mx0; rw [if_neg (by omega)]
  have e2 : mx0 b = b := by unfold mx0; rw [if_neg (by omega)]
  unfold plusV
  rw [e1, e2, if_neg (by omega)]
/-! ### what may be -/
theorem cnt_ok {S : Shp} (h : (cntP S).2 = 0) : 0 ≤ (cntP S).1 ∧ (cntP S).1 ≤ 200 := by
  have hge := wayN_ge S
  unfold cntP at h ⊢
  split at h
  · rename_i h1
    rw [if_pos h1]
    split at h
    · cases h
    · rename_i h2
      rw [if_neg h2]
      split at h
      · cases h
      · rename_i h3
        rw [if_neg h3]
        simp only
        omega
  · rename_i h1
    rw [if_neg h1]
    split at h
    · rename_i h2
      rw [if_pos h2]
      split at h
      · cases h
      · rename_i h3
        rw [if_neg h3]
        simp only
        have := Int.mul_nonneg h2.2.2.2.2.1 (b := S.stages) (by omega)
        omega
    · cases h
theorem code_ne {n : Int} : ∀ (l : List (List I8.In)), (codeE n l ≠ 0 → True) := fun _ _ => trivial
structure Fine (J : Jb) (C : Cfg) (n : Int) : Prop where
  n0 : 0 ≤ n
  n200 : n ≤ 200
  f1 : 1 ≤ J.fuel
  f4000 : J.fuel ≤ 4000
  r0 : 0 ≤ C.retry
  r9 : C.retry ≤ 9
  w1 : 1 ≤ C.workers
  w8 : C.workers ≤ 8
  v1 : 1 ≤ C.window
  v32 : C.window ≤ 32
theorem fine_of {J : Jb} {C : Cfg} (hv : validE J = 0) (hr : rightE C = 0) : Fine J C (cntP J.S).1 ∧ (cntP J.S).2 = 0 := by
  unfold validE at hv
  split at hv
  · rename_i h; exact absurd hv h
  split at hv
  · rename_i h; exact absurd hv h
  split at hv
  · cases hv
  rename_i hf
  split at hv
  · rename_i h; exact absurd hv h
  rename_i hc
  have hc0 : (cntP J.S).2 = 0 := by simpa using hc
  obtain ⟨q1, q2⟩ := cnt_ok hc0
  unfold rightE at hr
  split at hr
  · cases hr
  rename_i r1
  split at hr
  · cases hr
  split at hr
  · cases hr
  split at hr
  · cases hr
  rename_i r4
  simp only [outV, manyV, Bool.or_eq_true, decide_eq_true_eq, not_or] at r1 r4
  exact ⟨⟨q1, q2, by omega, by omega, by omega, by omega, by omega, by omega, by omega, by omega⟩, hc0⟩
def boundV (J : Jb) (C : Cfg) (ab : Int) : Int × Int :=
  if validE J ≠ 0 then (0, validE J) else if rightE C ≠ 0 then (0, rightE C) else (plusV (timesV (timesV (cntP J.S).1 (C.retry + 3)) (plusV J.fuel 3)) (timesV ab (plusV J.fuel 3)), 0)
theorem bound_T {H : Heap} (hw : H.WF) {J : Jb} (ok : JbOk H J) (C : Cfg) (ab : Int) (hab : okW ab) : T Tryz.prog 30 [.agg (jobC J).toArray, .agg (cfgC C).toArray, iv ab] H (.tuple #[iv (boundV J C ab).1, iv (boundV J C ab).2]) H := by
  obtain ⟨V, hV⟩ : ∃ V : Value, V = .tuple #[iv (boundV J C ab).1, iv (boundV J C ab).2] := ⟨_, rfl⟩
  rw [← hV]
  refine T_seen hm light30 (by rw [hV]; rfl) ?_
  obtain ⟨G, hG⟩ : ∃ G, G = H.new 29 11 (jobC J) := ⟨_, rfl⟩
  have onG : On H G := by rw [hG]; exact (On.refl hw).new _ _ _
  have vG : Vr G H.next 29 11 (jobC J) := by rw [hG]; exact Vr.mk' hw _ _ _
  have nG : G.next = H.next + 1 := by rw [hG]; simp
  obtain ⟨K, hK⟩ : ∃ K, K = G.new 32 11 (cfgC C) := ⟨_, rfl⟩
  have onK : On H K := by rw [hK]; exact onG.new _ _ _
  have vJ : Vr K H.next 29 11 (jobC J) := by rw [hK]; exact vG.new onG.wf _ _ _
  have vC : Vr K (H.next + 1) 32 11 (cfgC C) := by rw [hK, ← nG]; exact Vr.mk' onG.wf _ _ _
  have okK := ok.on hw onK
  have jl := JL.of vJ
  have c9 : K.load ⟨H.next + 1, 9, none⟩ = some (iv C.retry) := vC.load 9
  have cA : K.loadN ⟨H.next + 1, 0, none⟩ 0 11 = some (cfgC C) := vC.loadA rfl
  have fin := onK.keep
  unfold boundV at hV
  simp [L30, ← hG, ← hK, nG, jl.lA]
  refine goT_of (valid_T onK.wf okK) ?_
  by_cases hv : validE J = 0
  · rw [if_neg (by simp [hv])] at hV
    rw [hv]
    simp [cA]
    refine goT_of (right_T onK.wf C) ?_
    by_cases hr : rightE C = 0
    · rw [if_neg (by simp [hr])] at hV
      rw [hr]
      obtain ⟨fn, hc0⟩ := fine_of hv hr
      obtain ⟨n0, n200, f1, f4, r0, r9, w1, w8, v1, v32⟩ := fn
      simp [jl.lS]
      refine goT_of (count_T onK.wf J.S ok.S) ?_
      simp [jl.l3]
      refine goT_of (plus_T J.fuel 3 (by unfold okW; omega) (by unfold okW; omega)) ?_
      have wr : IntKind.i64.wrap (C.retry + 3) = C.retry + 3 := w64 _ (by omega)
      have p1 := plusV_ok (a := J.fuel) (b := 3) (by unfold okW; omega) (by unfold okW; omega)
      obtain ⟨one, hone⟩ : ∃ one, one = plusV J.fuel 3 := ⟨_, rfl⟩
      rw [← hone] at p1 hV ⊢
      have t1 := timesV_ok (a := (cntP J.S).1) (b := C.retry + 3) (by unfold okW; omega) (by unfold okW; omega)
      simp [c9, wr]
      refine goT_of (timesG_T (cntP J.S).1 (C.retry + 3) (by unfold okW; omega) (by unfold okW; omega)) ?_
      obtain ⟨t, ht⟩ : ∃ t, t = timesV (cntP J.S).1 (C.retry + 3) := ⟨_, rfl⟩
      rw [← ht] at t1 hV ⊢
      simp
      refine goT_of (timesG_T t one (by unfold okW; omega) (by unfold okW; omega)) ?_
      have t2 := timesV_ok (a := t) (b := one) (by unfold okW; omega) (by unfold okW; omega)
      obtain ⟨t', ht'⟩ : ∃ t', t' = timesV t one := ⟨_, rfl⟩
      rw [← ht'] at t2 hV ⊢
      simp
      refine goT_of (timesG_T ab one hab (by unfold okW; omega)) ?_
      have t3 := timesV_ok (a := ab) (b := one) hab (by unfold okW; omega)
      obtain ⟨s, hs⟩ : ∃ s, s = timesV ab one := ⟨_, rfl⟩
      rw [← hs] at t3 hV ⊢
      simp
      refine goT_of (plus_T t' s (by unfold okW; omega) (by unfold okW; omega)) ?_
      simp [hV]
      exact fin
    · rw [if_pos hr] at hV
      have hrb : (rightE C != 0) = true := by simpa using hr
      simp [hrb, hr, hV]
      exact fin
  · rw [if_pos hv] at hV
    have hvb : (validE J != 0) = true := by simpa using hv
    simp [hvb, hv, hV]
    exact fin
end Go.Proofs.YtnomffikflfilaaGreat
namespace Go.Proofs.YtnomffikflfilaaGreat
open Go.Ot Go.RowKit
open R14 (Twos)
open I8 (In rowI)
set_option linter.unusedSimpArgs false
set_option linter.unusedVariables false
abbrev runC (J : Jb) (C : Cfg) (xl : Value) : List Value := [iv J.words, J.xc, J.xr, iv J.fuel, iv J.S.kind, iv J.S.lo, iv J.S.hi, iv J.S.step, iv J.S.items, iv J.S.stages, J.xk, iv C.workers, iv C.window, iv C.policy, iv C.chunk, iv C.reads, iv C.writes, iv C.outs, iv C.arena, iv C.edges, iv C.retry, .bool C.force, xl]
theorem runC_eq (J : Jb) (C : Cfg) (xl : Value) : runC J C xl = jobC J ++ cfgC C ++ [xl] := rfl
structure RL (H : Heap) (p : Nat) (J : Jb) (C : Cfg) (xl : Value) : Prop where
  lJ : H.loadN ⟨p, 0, none⟩ 0 11 = some (jobC J)
  lC : H.loadN ⟨p, 11, none⟩ 0 11 = some (cfgC C)
  l22 : H.load ⟨p, 22, none⟩ = some xl
  lA : H.loadN ⟨p, 0, none⟩ 0 23 = some (runC J C xl)
theorem RL.of {H : Heap} {p ty n : Nat} {J : Jb} {C : Cfg} {xl : Value} (v : Vr H p ty n (runC J C xl)) : RL H p J C xl := by
  refine ⟨?_, ?_, v.load 22, v.loadA rfl⟩
  · have := loadN_cells (H := H) (b := p) (off := 0) (l := jobC J) (i := 0) (fun j hj => by
      have hj' : j < 11 := hj
      rw [v.load, Nat.zero_add, runC_eq, List.getElem?_append_left (by simp; omega), List.getElem?_append_left (by simpa using hj'), List.getElem?_eq_getElem])
    exact this
  · have := loadN_cells (H := H) (b := p) (off := 11) (l := cfgC C) (i := 0) (fun j hj => by
      have hj' : j < 11 := hj
      rw [v.load, Nat.add_zero, runC_eq, List.getElem?_append_left (by simp; omega), List.getElem?_append_right (by simp), List.getElem?_eq_getElem]
      · simp
      · simp; omega)
    exact this
theorem great24_T {H : Heap} (hw : H.WF) {J : Jb} (ok : Jb0 H J) (C : Cfg) {a : Option Addr} {n c : Nat} (most : Int) : T Tryz.prog 9 [.agg (runC J C (.slice a n c)).toArray, iv most] H (.bool (greatV J || decide (most < (n : Int)))) H := by
  obtain ⟨B, hB⟩ : ∃ B, B = (greatV J || decide (most < (n : Int))) := ⟨_, rfl⟩
  rw [← hB]
  refine T_seen hm light9 rfl ?_
  obtain ⟨G, hG⟩ : ∃ G, G = H.new 35 23 (runC J C (.slice a n c)) := ⟨_, rfl⟩
  have onG : On H G := by rw [hG]; exact (On.refl hw).new _ _ _
  have vG : Vr G H.next 35 23 (runC J C (.slice a n c)) := by rw [hG]; exact Vr.mk' hw _ _ _
  have rl := RL.of vG
  have gT := great_T onG.wf (ok.on hw onG)
  have fin := onG.keep
  simp [L9, ← hG, rl.lJ]
  refine goT_of gT ?_
  cases hg : greatV J with
  | true =>
    have hB : B = true := by rw [hB, hg]; rfl
    simp [hB]
    exact fin
  | false =>
    have hB : B = decide (most < (n : Int)) := by rw [hB, hg]; rfl
    simp [rl.l22, hB]
    exact fin
end Go.Proofs.YtnomffikflfilaaGreat
namespace Go.Proofs.YtnomffikflfilaaGreat
open Go.Ot Go.ChangeShapes Go.WideShapes Go.ChangeAt Go.RowKit
open R14 (Twos)
open I8 (In rowI)
set_option linter.unusedSimpArgs false
set_option linter.unusedVariables false
set_option maxRecDepth 100000
theorem rd_one {P : Program} {H : Heap} {n : Nat} {t e : TypeId} (ht : P.underlying t = some (.slice e)) {cs : List Value} (h : Rd P H (n + 1) t cs) : ∃ x, cs = [x] := by
  simp only [Rd, ht] at h
  obtain ⟨y, hy, _⟩ := h
  exact ⟨y, hy⟩
theorem kc3 : Tryz.prog.cellsOf 3 = 1 := by kernel_rfl
theorem kc2 : Tryz.prog.cellsOf 2 = 1 := by kernel_rfl
theorem kc4 : Tryz.prog.cellsOf 4 = 1 := by kernel_rfl
theorem rd_cell {H : Heap} {m : Nat} (ds : List Value) (h : Rd Tryz.prog H (m + 2) 98 ds) : ∃ a : Int × Int, ds = [iv a.1, iv a.2] := by
  have hl : ds.length = 2 := (Go.Ot.rd_len Tryz.underlying98 h).trans (by kernel_rfl)
  match ds, hl with
  | [w0, w1], _ =>
    have g0 := rd_field Tryz.underlying98 h 0 rfl kc3
    have g1 := rd_field Tryz.underlying98 h 1 rfl kc2
    obtain ⟨a0, q0, _⟩ := rd_int Tryz.underlying3 g0
    obtain ⟨a1, q1, _⟩ := rd_int Tryz.underlying2 g1
    simp at q0 q1
    subst q0 q1
    exact ⟨(a0, a1), rfl⟩
theorem rd_red {H : Heap} {m : Nat} (ds : List Value) (h : Rd Tryz.prog H (m + 2) 101 ds) : ∃ a : Int × Int, ds = [iv a.1, iv a.2] := by
  have c132 : Tryz.prog.cellsOf 99 = 1 := by kernel_rfl
  have hl : ds.length = 2 := (Go.Ot.rd_len Tryz.underlying101 h).trans (by kernel_rfl)
  match ds, hl with
  | [w0, w1], _ =>
    have g0 := rd_field Tryz.underlying101 h 0 rfl c132
    have g1 := rd_field Tryz.underlying101 h 1 rfl kc2
    obtain ⟨a0, q0, _⟩ := rd_int Tryz.underlying99 g0
    obtain ⟨a1, q1, _⟩ := rd_int Tryz.underlying2 g1
    simp at q0 q1
    subst q0 q1
    exact ⟨(a0, a1), rfl⟩
theorem twos_of {H : Heap} {s e : TypeId} {m : Nat} (hs : Tryz.prog.underlying s = some (.slice e)) (hc : Tryz.prog.cellsOf e = 2) (hel : ∀ ds, Rd Tryz.prog H m e ds → ∃ a : Int × Int, ds = [iv a.1, iv a.2]) {x : Value} (h : Rd Tryz.prog H (m + 1) s [x]) : ∃ l : List (Int × Int), Twos H x l := by
  rcases rd_slice hs h hc with rfl | ⟨b, off, k, c, rfl, _, h⟩
  · exact ⟨[], .inl ⟨rfl, rfl⟩⟩
  · obtain ⟨l, hl, h⟩ := rd_all (Q := fun (a : Int × Int) ds => ds = [iv a.1, iv a.2]) hel h
    refine ⟨l, .inr ⟨b, off, c, by rw [hl], fun i hi => ?_⟩⟩
    obtain ⟨_, ds, _, h3, h4⟩ := h i hi
    subst h4
    exact ⟨h3 0 (by simp), h3 1 (by simp)⟩
theorem rd_in {H : Heap} {m : Nat} (ds : List Value) (h : Rd Tryz.prog H (m + 2) 113 ds) : ∃ a : In, ds = rowI a ∧ I8.okI a.kind := by
  have hl : ds.length = 6 := (Go.Ot.rd_len Tryz.underlying113 h).trans (by kernel_rfl)
  have c137 : Tryz.prog.cellsOf 110 = 1 := by kernel_rfl
  have c138 : Tryz.prog.cellsOf 111 = 1 := by kernel_rfl
  match ds, hl with
  | [w0, w1, w2, w3, w4, w5], _ =>
    have g0 := rd_field Tryz.underlying113 h 0 rfl c137
    have g1 := rd_field Tryz.underlying113 h 1 rfl c138
    have g2 := rd_field Tryz.underlying113 h 2 rfl kc3
    have g3 := rd_field Tryz.underlying113 h 3 rfl kc3
    have g4 := rd_field Tryz.underlying113 h 4 rfl kc3
    have g5 := rd_field Tryz.underlying113 h 5 rfl kc2
    obtain ⟨a0, q0, k0⟩ := rd_int Tryz.underlying110 g0
    obtain ⟨a1, q1, _⟩ := rd_int Tryz.underlying111 g1
    obtain ⟨a2, q2, _⟩ := rd_int Tryz.underlying3 g2
    obtain ⟨a3, q3, _⟩ := rd_int Tryz.underlying3 g3
    obtain ⟨a4, q4, _⟩ := rd_int Tryz.underlying3 g4
    obtain ⟨a5, q5, _⟩ := rd_int Tryz.underlying2 g5
    simp at q0 q1 q2 q3 q4 q5
    subst q0 q1 q2 q3 q4 q5
    exact ⟨⟨a0, a1, a2, a3, a4, a5⟩, rfl, bounds_i64 k0⟩
theorem rd_code {H : Heap} {m : Nat} {x : Value} (h : Rd Tryz.prog H (m + 3) 103 [x]) : ∃ l : List In, Rws H 6 x (l.map rowI) ∧ ∀ a ∈ l, I8.okI a.kind := by
  rcases rd_slice Tryz.underlying103 h (show Tryz.prog.cellsOf 113 = 6 by kernel_rfl) with rfl | ⟨b, off, k, c, rfl, _, h⟩
  · exact ⟨[], .inl ⟨rfl, rfl⟩, by simp⟩
  · obtain ⟨l, hl, h⟩ := rd_all (Q := fun (a : In) ds => ds = rowI a ∧ I8.okI a.kind) (fun ds h => rd_in ds h) h
    refine ⟨l, .inr ⟨b, off, c, by rw [List.length_map, hl], fun i hi => ?_⟩, fun a ha => ?_⟩
    · have hi' : i < l.length := by simpa using hi
      obtain ⟨_, ds, _, h3, h4, _⟩ := h i hi'
      subst h4
      simp only [List.getElem_map]
      exact ⟨rfl, fun j hj => h3 j hj⟩
    · obtain ⟨i, hi, rfl⟩ := List.mem_iff_getElem.mp ha
      obtain ⟨_, ds, _, _, _, h5⟩ := h i hi
      exact h5
theorem rd_codes {H : Heap} {m : Nat} {x : Value} (h : Rd Tryz.prog H (m + 4) 27 [x]) : ∃ l : List (List In), Cds H x l ∧ ∀ c ∈ l, ∀ a ∈ c, I8.okI a.kind := by
  have c103 : Tryz.prog.cellsOf 103 = 1 := by kernel_rfl
  rcases rd_slice Tryz.underlying27 h c103 with rfl | ⟨b, off, k, c, rfl, _, h⟩
  · exact ⟨[], .inl ⟨rfl, rfl⟩, by simp⟩
  · have hel : ∀ ds, Rd Tryz.prog H (m + 3) 103 ds → ∃ l : List In, ∃ y, ds = [y] ∧ Rws H 6 y (l.map rowI) ∧ ∀ a ∈ l, I8.okI a.kind := by
      intro ds hd
      obtain ⟨y, rfl⟩ := rd_one Tryz.underlying103 hd
      obtain ⟨l, h1, h2⟩ := rd_code hd
      exact ⟨l, y, rfl, h1, h2⟩
    obtain ⟨l, hl, h⟩ := rd_all (Q := fun (l : List In) ds => ∃ y, ds = [y] ∧ Rws H 6 y (l.map rowI) ∧ ∀ a ∈ l, I8.okI a.kind) hel h
    refine ⟨l, .inr ⟨b, off, c, by rw [hl], fun i hi => ?_⟩, fun cl hc => ?_⟩
    · obtain ⟨_, ds, _, h3, y, h4, h5, _⟩ := h i hi
      subst h4
      refine ⟨y, ?_, h5⟩
      have := h3 0 (by simp)
      simpa using this
    · obtain ⟨i, hi, rfl⟩ := List.mem_iff_getElem.mp hc
      obtain ⟨_, ds, _, _, y, _, _, h6⟩ := h i hi
      exact h6
theorem rd_shape {H : Heap} {m : Nat} (ds : List Value) (h : Rd Tryz.prog H (m + 2) 26 ds) : ∃ S : Shp, ds = shpC S ∧ ShpOk S := by
  have hl : ds.length = 6 := (Go.Ot.rd_len Tryz.underlying26 h).trans (by kernel_rfl)
  have c45 : Tryz.prog.cellsOf 24 = 1 := by kernel_rfl
  match ds, hl with
  | [w0, w1, w2, w3, w4, w5], _ =>
    have g0 := rd_field Tryz.underlying26 h 0 rfl c45
    have g1 := rd_field Tryz.underlying26 h 1 rfl kc2
    have g2 := rd_field Tryz.underlying26 h 2 rfl kc2
    have g3 := rd_field Tryz.underlying26 h 3 rfl kc2
    have g4 := rd_field Tryz.underlying26 h 4 rfl kc3
    have g5 := rd_field Tryz.underlying26 h 5 rfl kc3
    obtain ⟨a0, q0, k0⟩ := rd_int Tryz.underlying24 g0
    obtain ⟨a1, q1, k1⟩ := rd_int Tryz.underlying2 g1
    obtain ⟨a2, q2, k2⟩ := rd_int Tryz.underlying2 g2
    obtain ⟨a3, q3, k3⟩ := rd_int Tryz.underlying2 g3
    obtain ⟨a4, q4, k4⟩ := rd_int Tryz.underlying3 g4
    obtain ⟨a5, q5, k5⟩ := rd_int Tryz.underlying3 g5
    simp at q0 q1 q2 q3 q4 q5
    subst q0 q1 q2 q3 q4 q5
    exact ⟨⟨a0, a1, a2, a3, a4, a5⟩, rfl, bounds_i64 k1, bounds_i64 k2, bounds_i64 k3, bounds_i64 k4, bounds_i64 k5⟩
theorem rd_job {H : Heap} {m : Nat} (ds : List Value) (h : Rd Tryz.prog H (m + 5) 29 ds) : ∃ J : Jb, ds = jobC J ∧ Jb0 H J := by
  have hl : ds.length = 11 := (Go.Ot.rd_len Tryz.underlying29 h).trans (by kernel_rfl)
  have c43 : Tryz.prog.cellsOf 22 = 1 := by kernel_rfl
  have c44 : Tryz.prog.cellsOf 23 = 1 := by kernel_rfl
  have c47 : Tryz.prog.cellsOf 26 = 6 := by kernel_rfl
  have c48 : Tryz.prog.cellsOf 27 = 1 := by kernel_rfl
  match ds, hl with
  | [w0, w1, w2, w3, w4, w5, w6, w7, w8, w9, w10], _ =>
    have g0 := rd_field Tryz.underlying29 h 0 rfl kc3
    have g1 := rd_field Tryz.underlying29 h 1 rfl c43
    have g2 := rd_field Tryz.underlying29 h 2 rfl c44
    have g3 := rd_field Tryz.underlying29 h 3 rfl kc3
    have g4 := rd_field Tryz.underlying29 h 4 rfl c47
    have g5 := rd_field Tryz.underlying29 h 5 rfl c48
    obtain ⟨a0, q0, _⟩ := rd_int Tryz.underlying3 g0
    obtain ⟨lc, h1⟩ := twos_of (m := m + 3) Tryz.underlying22 (show Tryz.prog.cellsOf 98 = 2 by kernel_rfl) (fun ds h => rd_cell (m := m + 1) ds h) g1
    obtain ⟨lr, h2⟩ := twos_of (m := m + 3) Tryz.underlying23 (show Tryz.prog.cellsOf 101 = 2 by kernel_rfl) (fun ds h => rd_red (m := m + 1) ds h) g2
    obtain ⟨a3, q3, _⟩ := rd_int Tryz.underlying3 g3
    obtain ⟨S, q4, hS⟩ := rd_shape (m := m + 2) _ g4
    obtain ⟨lk, h5, hk⟩ := rd_codes (m := m) g5
    simp at q0 q3 q4
    obtain ⟨r0, r1, r2, r3, r4, r5⟩ := q4
    subst q0 q3 r0 r1 r2 r3 r4 r5
    exact ⟨⟨a0, a3, S, lc, lr, lk, w1, w2, w10⟩, rfl, h1, h2, h5, hS, hk⟩
theorem rd_cfg {H : Heap} {m : Nat} (ds : List Value) (h : Rd Tryz.prog H (m + 2) 32 ds) : ∃ C : Cfg, ds = cfgC C := by
  have hl : ds.length = 11 := (Go.Ot.rd_len Tryz.underlying32 h).trans (by kernel_rfl)
  have c51 : Tryz.prog.cellsOf 30 = 1 := by kernel_rfl
  match ds, hl with
  | [w0, w1, w2, w3, w4, w5, w6, w7, w8, w9, w10], _ =>
    obtain ⟨a0, q0, _⟩ := rd_int Tryz.underlying3 (rd_field Tryz.underlying32 h 0 rfl kc3)
    obtain ⟨a1, q1, _⟩ := rd_int Tryz.underlying3 (rd_field Tryz.underlying32 h 1 rfl kc3)
    obtain ⟨a2, q2, _⟩ := rd_int Tryz.underlying30 (rd_field Tryz.underlying32 h 2 rfl c51)
    obtain ⟨a3, q3, _⟩ := rd_int Tryz.underlying3 (rd_field Tryz.underlying32 h 3 rfl kc3)
    obtain ⟨a4, q4, _⟩ := rd_int Tryz.underlying3 (rd_field Tryz.underlying32 h 4 rfl kc3)
    obtain ⟨a5, q5, _⟩ := rd_int Tryz.underlying3 (rd_field Tryz.underlying32 h 5 rfl kc3)
    obtain ⟨a6, q6, _⟩ := rd_int Tryz.underlying3 (rd_field Tryz.underlying32 h 6 rfl kc3)
    obtain ⟨a7, q7, _⟩ := rd_int Tryz.underlying3 (rd_field Tryz.underlying32 h 7 rfl kc3)
    obtain ⟨a8, q8, _⟩ := rd_int Tryz.underlying3 (rd_field Tryz.underlying32 h 8 rfl kc3)
    obtain ⟨a9, q9, _⟩ := rd_int Tryz.underlying3 (rd_field Tryz.underlying32 h 9 rfl kc3)
    obtain ⟨a10, q10⟩ := rd_bool Tryz.underlying4 (rd_field Tryz.underlying32 h 10 rfl kc4)
    simp at q0 q1 q2 q3 q4 q5 q6 q7 q8 q9 q10
    subst q0 q1 q2 q3 q4 q5 q6 q7 q8 q9 q10
    exact ⟨⟨a0, a1, a2, a3, a4, a5, a6, a7, a8, a9, a10⟩, rfl⟩
theorem rd_run {H : Heap} (ds : List Value) (h : Rd Tryz.prog H 7 35 ds) : ∃ (J : Jb) (C : Cfg) (a : Option Addr) (n c : Nat), ds = runC J C (.slice a n c) ∧ Jb0 H J := by
  have hl : ds.length = 23 := (Go.Ot.rd_len Tryz.underlying35 h).trans (by kernel_rfl)
  have c50 : Tryz.prog.cellsOf 29 = 11 := by kernel_rfl
  have c53 : Tryz.prog.cellsOf 32 = 11 := by kernel_rfl
  have c22 : Tryz.prog.cellsOf 33 = 1 := by kernel_rfl
  have g0 := rd_field Tryz.underlying35 h 0 rfl c50
  have g1 := rd_field Tryz.underlying35 h 1 rfl c53
  have g2 := rd_field Tryz.underlying35 h 2 rfl c22
  obtain ⟨J, q0, hJ⟩ := rd_job (m := 1) _ g0
  obtain ⟨C, q1⟩ := rd_cfg (m := 4) _ g1
  have hx : ∃ a n c, (ds.drop 22).take 1 = [.slice a n c] := by
    obtain ⟨x, hx⟩ := rd_one Tryz.underlying33 g2
    have hx' : (ds.drop 22).take 1 = [x] := hx
    rw [hx] at g2
    rcases rd_slice Tryz.underlying33 g2 (show Tryz.prog.cellsOf 62 = 2 by kernel_rfl) with rfl | ⟨b, off, m, c, rfl, _⟩
    · exact ⟨_, _, _, hx'⟩
    · exact ⟨_, _, _, hx'⟩
  obtain ⟨a, n, c, q2⟩ := hx
  refine ⟨J, C, a, n, c, ?_, hJ⟩
  have q0 : (ds.drop 0).take 11 = jobC J := q0
  have q1 : (ds.drop 11).take 11 = cfgC C := q1
  rw [runC_eq, ← q0, ← q1, ← q2, List.drop_zero]
  have e1 : ds = ds.take 11 ++ ds.drop 11 := (List.take_append_drop 11 ds).symm
  have e2 : ds.drop 11 = (ds.drop 11).take 11 ++ ds.drop 22 := by
    have := (List.take_append_drop 11 (ds.drop 11)).symm
    rw [List.drop_drop] at this
    exact this
  have e3 : ds.drop 22 = (ds.drop 22).take 1 := by rw [List.take_of_length_le (by rw [List.length_drop]; omega)]
  rw [List.append_assoc, ← e3, ← e2, ← e1]
end Go.Proofs.YtnomffikflfilaaGreat
namespace Go.Proofs.YtnomffikflfilaaGreat
open Go.Ot Go.ChangeShapes Go.WideShapes Go.ChangeAt Go.RowKit
set_option linter.unusedSimpArgs false
set_option linter.unusedVariables false
set_option maxRecDepth 100000 in
theorem rd_ent {H : Heap} {m : Nat} (ds : List Value) (h : Rd Tryz.prog H (m + 2) 62 ds) : ∃ a : Ent, ds = erow a ∧ -9223372036854775808 ≤ a.1 ∧ a.1 ≤ 9223372036854775807 := by
  have hl : ds.length = 2 := (Go.Ot.rd_len Tryz.underlying62 h).trans (by kernel_rfl)
  have c3 : Tryz.prog.cellsOf 3 = 1 := by kernel_rfl
  have c4 : Tryz.prog.cellsOf 4 = 1 := by kernel_rfl
  match ds, hl with
  | [w0, w1], _ =>
    have g0 := rd_field Tryz.underlying62 h 0 rfl c3
    have g1 := rd_field Tryz.underlying62 h 1 rfl c4
    obtain ⟨a0, q0, f0⟩ := rd_int Tryz.underlying3 g0
    obtain ⟨a1, q1⟩ := rd_bool Tryz.underlying4 g1
    simp at q0 q1
    subst q0 q1
    exact ⟨(a0, a1), rfl, bounds_i64 f0⟩
set_option maxRecDepth 100000 in
theorem rd_ents {H : Heap} {m : Nat} {x : Value} (h : Rd Tryz.prog H (m + 3) 33 [x]) : ∃ l : List Ent, Rl H x l ∧ ∀ e ∈ l, -9223372036854775808 ≤ e.1 ∧ e.1 ≤ 9223372036854775807 := by
  rcases rd_slice Tryz.underlying33 h (show Tryz.prog.cellsOf 62 = 2 by kernel_rfl) with rfl | ⟨b, off, k, c, rfl, _, h⟩
  · exact ⟨[], .inl ⟨rfl, rfl⟩, by simp⟩
  · obtain ⟨l, hl, h⟩ := rd_all (Q := fun (a : Ent) ds => ds = erow a ∧ -9223372036854775808 ≤ a.1 ∧ a.1 ≤ 9223372036854775807) (fun ds h => rd_ent (m := m) ds h) h
    refine ⟨l, .inr ⟨b, off, c, by rw [List.length_map, hl], fun i hi => ?_⟩, fun a ha => ?_⟩
    · have hi' : i < l.length := by simpa using hi
      obtain ⟨_, ds, _, h3, h4, _⟩ := h i hi'
      subst h4
      simp only [List.getElem_map]
      exact ⟨rfl, fun j hj => h3 j hj⟩
    · obtain ⟨i, hi, rfl⟩ := List.mem_iff_getElem.mp ha
      obtain ⟨_, ds, _, _, _, h5⟩ := h i hi
      exact h5
end Go.Proofs.YtnomffikflfilaaGreat
