/-
  Chapter 29: how many tasks stand at each depth, by both.
-/
import Derived.Test.YtfmcnojojknkfaaSeatD
namespace Go.Proofs.Ytfmcnojojknkfaa
open Go.Ot Go.RowKit Go.Fl
set_option linter.unusedSimpArgs false
set_option linter.unusedVariables false
def ci (l : List Int) : List Value := l.map (.int .i64)
theorem ci_len (l : List Int) : (ci l).length = l.length := by simp [ci]
theorem ci_snoc (l : List Int) (n : Int) : ci l ++ [iv n] = ci (l ++ [n]) := by simp [ci]
/-- A cell of a row of numbers of one's own. -/
theorem own_cell {H : Heap} {ety n : Nat} {l : List Int} {x : Value} (h : Own H ety 1 n (ci l) x) {i : Nat} (hi : i < l.length) :
    n = l.length ∧ ∃ b, x = .slice (some ⟨b, 0, none⟩) n 0 ∧ H.load ⟨b, i, none⟩ = some (iv l[i]) ∧ ∀ z, ∃ cs, H.store ⟨b, i, none⟩ (iv z) = some (H.put b cs) ∧ Own (H.put b cs) ety 1 n (ci (l.set i z)) x := by
  have hn : n = l.length := by have := h.1; rw [ci_len] at this; omega
  rcases h.2 with ⟨_, h0⟩ | ⟨b, rest, hb, hB, hk⟩
  · omega
  refine ⟨hn, b, hb, ?_, fun z => ⟨ci (l.set i z) ++ rest, ?_, ⟨by rw [ci_len, List.length_set]; omega, .inr ⟨b, rest, hb, by simpa using hB, by simp [hk]⟩⟩⟩⟩
  · rw [load_at hB hk, List.getElem?_append_left (by rw [ci_len]; exact hi)]
    simp [ci, hi]
  · rw [store_own hB hk, if_pos (by simp [ci_len]; omega)]
    congr 2
    rw [List.set_append_left _ _ (by rw [ci_len]; exact hi)]
    simp [ci, List.map_set]
theorem Row.over {H H1 H2 : Heap} {ety sz n : Nat} {cells : List Value} {y : Value} (h : Row H H1 ety sz n cells y) (o : On H1 H2) : Row H H2 ety sz n cells y := ⟨Own.on h.on.wf h.own o, h.on.trans o, h.new⟩
/-- One cell more; what stands beside the row stands. -/
theorem row_push2 {H H1 : Heap} {ety sz n : Nat} (bytes : Nat) {cells e : List Value} {x : Value} (h : Row H H1 ety sz n cells x) (he : e.length = sz) (h0 : 0 < sz) (hb : (n + 1) * bytes ≤ 140737488355328) :
    ∃ z H3, sAppend (H1.new ety sz e) ety sz bytes x (.slice (some ⟨H1.next, 0, none⟩) 1 0) = some (z, H3) ∧ Row H H3 ety sz (n + 1) (cells ++ e) z ∧ H1.next ≤ H3.next ∧ (∀ b, blkOf z = some b → H1.next ≤ b) ∧ ∀ c, c < H1.next → blkOf x ≠ some c → H3.blk c = H1.blk c := by
  obtain ⟨own, on, new⟩ := h
  have hnB := on.wf.next_ge
  have o : On H1 (H1.new ety sz e) := (On.refl on.wf).new _ _ _
  have own2 := Own.on on.wf own o
  have on2 := on.trans o
  have hs := src_own (H := H1.new ety sz e) (ety := ety) (y := H1.next) (sz := sz) (e := e) (by simpa using hnB) (by simp) he h0 0
  refine ⟨_, _, append_any own2 hs (by decide) hb, ⟨?_, ?_, ?_⟩, ?_, ?_, ?_⟩
  · refine Own.mk (by rw [List.length_append, own.1, he, Nat.add_mul, Nat.one_mul]) ?_ (by simp)
    simpa using o.wf.next_ge
  · refine ⟨WF_new (WF_drop o.wf _) _ _ _, by simpa using on2.base, by have := on2.next; simp at this ⊢; omega, fun b hb => ?_⟩
    have := on2.next
    have h2 : blkOf x ≠ some b := fun hx => by have := new b hx; omega
    have h3 : b ≠ (H1.new ety sz e).next := by omega
    rw [blk_new, if_neg (by simpa using h3), blk_drop, if_neg h2, on2.keep b hb]
  · intro b hb
    have : (H1.new ety sz e).next = b := by simpa using hb
    have := on2.next
    omega
  · simp; omega
  · intro b hb
    have : (H1.new ety sz e).next = b := by simpa using hb
    simp at this
    omega
  · intro c hc hx
    have h3 : c ≠ (H1.new ety sz e).next := by simp; omega
    rw [blk_new, if_neg (by simpa using h3), blk_drop, if_neg hx, o.keep c hc]
theorem z1 : zerosA [Value.int IntKind.i64 0] 1 = [.int .i64 0] := rfl
theorem wideN_nil (n : Nat) : wideN n [] = List.replicate n 0 := by
  apply List.ext_getElem
  · simp [wideN]
  · intro i h1 h2; simp [wideN, cntV]
theorem take_snoc {L : List Tk} {i : Nat} (hi : i < L.length) : L.take (i + 1) = L.take i ++ [L[i]] := by
  rw [List.take_add_one, List.getElem?_eq_getElem hi]; rfl
/-- What Wide answers. -/
def WideF (H : Heap) (L : List Tk) (o : Out) (H' : Heap) : Prop := ∃ y, o = .ret y ∧ Row H H' 3 1 (topV L) (ci (wideV L)) y
def InvW1 (H : Heap) (x : Value) (L : List Tk) (k : Nat) (t : Tm) (H1 : Heap) : Prop :=
  ∃ i y, i + k = L.length ∧ t 6 = x ∧ t 7 = iv L.length ∧ t 8 = iv i ∧ t 3 = y ∧ Row H H1 3 1 (topV (L.take i)) (ci (wideN (topV (L.take i)) (L.take i))) y
def InvW2 (H : Heap) (x : Value) (L : List Tk) (i p : Nat) (dp : Nat) (k : Nat) (t : Tm) (H1 : Heap) : Prop :=
  ∃ n y, dp - n = k ∧ t 6 = x ∧ t 7 = iv L.length ∧ t 8 = iv i ∧ t 3 = y ∧ t 5 = ptr p ∧ topV (L.take i) ≤ n ∧ (n = topV (L.take i) ∨ n ≤ dp) ∧ n ≤ 200 ∧ Row H H1 3 1 n (ci (wideN n (L.take i))) y ∧ H1.load ⟨p, 4, none⟩ = some (iv dp) ∧ p < H1.next ∧ blkOf y ≠ some p
theorem wide_E {H : Heap} (hw : H.WF) {x : Value} {L : List Tk} (hx : TkL H x L) (hl : L.length ≤ 100000) : TE Try.prog 6 [x] H (WideF H L) := by
  refine TE_by hm light6 ?_
  obtain ⟨Q, hQ⟩ : ∃ Q, Q = WideF H L := ⟨_, rfl⟩
  rw [← hQ]
  obtain ⟨a, c, hxa⟩ := hx.len
  rw [hxa]
  simp [L6]
  rw [← hxa]
  refine loop_at (InvW1 H x L) L.length ?_ ?_
  · exact ⟨0, .slice none 0 0, by omega, by simp, by simp, by simp, by simp, Row.nil hw 3 1⟩
  · rintro k t H1 ⟨i, y, hik, t6, t7, t8, t3, row⟩
    cases k with
    | zero =>
      have e1 : ¬ ((i : Int) < L.length) := by omega
      rw [List.take_of_length_le (by omega)] at row
      obtain ⟨ay, hy⟩ := row.own.len
      simp [L6_2, t7, t8, e1, t3]
      exact ⟨by rw [hy]; rfl, by rw [hQ]; exact ⟨y, rfl, row⟩⟩
    | succ k =>
      have hil : i < L.length := by omega
      have e1 : ((i : Int) < L.length) := by omega
      have e4 : IntKind.i64.wrap ((i : Int) + 1) = ((i + 1 : Nat) : Int) := by rw [w64 _ (by omega)]; omega
      obtain ⟨iN, hiN⟩ : ∃ n : Nat, n = i + 1 := ⟨_, rfl⟩
      have hT : L.take iN = L.take i ++ [L[i]] := by rw [hiN]; exact take_snoc hil
      rw [← hiN] at e4
      obtain ⟨b, off, c', hxs, all⟩ := hx.all (by omega)
      obtain ⟨u, v, z, A⟩ := all i hil
      obtain ⟨tk, htk⟩ : ∃ tk, tk = L[i] := ⟨_, rfl⟩
      rw [← htk] at A hT
      have A2 := A.on hw row.on
      have all5 := A2.all
      obtain ⟨R5, hR5⟩ : ∃ R5, R5 = [iv tk.age, u, v, z, iv tk.deep] := ⟨_, rfl⟩
      rw [← hR5] at all5
      obtain ⟨HB, stB, onB, nB, ldB⟩ := newTk row.on.wf R5 (by rw [hR5]; rfl)
      have rowB := row.over onB
      have l4 : HB.load ⟨H1.next, 4, none⟩ = some (iv tk.deep) := by rw [ldB, hR5]; rfl
      have t6' := t6
      rw [hxs] at t6
      by_cases h1 : tk.deep < 1
      · have hno : tk.ok = false := by simp [Tk.ok]; omega
        simp [L6_2, t7, t8, e1, t6, hil, all5, stB, l4, h1, e4]
        refine ⟨k, by omega, iN, y, by omega, by simp [t6'], by simp [t7], by simp, by simp [t3], ?_⟩
        rw [hT, topV_snoc, hno, wideN_skip hno]
        exact rowB
      · by_cases h2 : 200 < tk.deep
        · have hno : tk.ok = false := by simp [Tk.ok]; omega
          simp [L6_2, t7, t8, e1, t6, hil, all5, stB, l4, h1, h2, e4]
          refine ⟨k, by omega, iN, y, by omega, by simp [t6'], by simp [t7], by simp, by simp [t3], ?_⟩
          rw [hT, topV_snoc, hno, wideN_skip hno]
          exact rowB
        · have hok : tk.ok = true := by simp [Tk.ok]; omega
          obtain ⟨dp, hdp0⟩ : ∃ dp : Nat, tk.deep = ((dp + 1 : Nat) : Int) := ⟨tk.deep.toNat - 1, by omega⟩
          obtain ⟨dq, hdq⟩ : ∃ dq, dq = dp + 1 := ⟨_, rfl⟩
          have hdp : tk.deep = (dq : Int) := by rw [hdp0, hdq]
          have hdl : dq ≤ 200 := by omega
          have l4' : HB.load ⟨H1.next, 4, none⟩ = some (iv (dq : Int)) := by rw [l4, hdp]
          rw [hdp] at h1 h2
          simp [L6_2, t7, t8, e1, t6, hil, all5, stB, l4', h1, h2]
          have htop := topV_le (L.take i)
          refine loop_at (InvW2 H x L i H1.next dq) (dq - topV (L.take i)) ?_ ?_
          · exact ⟨topV (L.take i), y, rfl, by simp [t6'], by simp [t7], by simp [t8], by simp [t3], by simp, Nat.le_refl _, .inl rfl, htop, rowB, l4', by rw [nB]; omega, fun hb => by have := row.own.lt row.on.wf hb; omega⟩
          · rintro k2 t H2 ⟨n, y, hk2, t6, t7, t8, t3, t5, hn1, hn2, hn3, row, ld4, hp, hpy⟩
            obtain ⟨ay, hy⟩ := row.own.len
            cases k2 with
            | zero =>
              have e2 : ¬ ((n : Int) < (dq : Int)) := by omega
              have hd : dp < n := by omega
              have e5 : IntKind.i64.wrap ((dq : Int) - 1) = (dp : Int) := by rw [w64 _ (by omega)]; omega
              obtain ⟨_, bb, hyb, ldc, stc⟩ := own_cell row.own (i := dp) (by rw [wideN_len]; exact hd)
              have hcv : (wideN n (L.take i))[dp]'(by rw [wideN_len]; exact hd) = ((cntV dp (L.take i) : Nat) : Int) := by
                have := wideN_get (l := L.take i) hd
                rw [List.getElem?_eq_getElem (by rw [wideN_len]; exact hd)] at this
                exact Option.some.inj this
              rw [hcv] at ldc
              obtain ⟨cn, hcn⟩ : ∃ cn, cn = cntV dp (L.take i) := ⟨_, rfl⟩
              have hcl : cn ≤ L.length := by
                have := cntV_le dp (L.take i)
                rw [List.length_take] at this
                omega
              rw [← hcn] at ldc
              have e6 : IntKind.i64.wrap ((cn : Int) + 1) = (cn : Int) + 1 := w64 _ (by omega)
              obtain ⟨cs, st, own'⟩ := stc ((cn : Int) + 1)
              have hset := wideN_set (n := n) (t := tk) (l := L.take i) hok (d := dp) (by rw [hdp]; omega) hd
              rw [← hcn] at hset
              rw [hset] at own'
              have hmax : max (topV (L.take i)) tk.deep.toNat = n := by rw [hdp]; omega
              have rowZ : Row H (H2.put bb cs) 3 1 n (ci (wideN n (L.take i ++ [tk]))) y := ⟨own', row.on.put (row.new bb (by rw [hyb]; rfl)) _, row.new⟩
              rw [hyb] at t3
              simp [L6_1, t3, t5, ld4, e2, e5, hd, ldc, e6, st, t8, e4]
              rw [← hyb]
              refine ⟨k, by omega, iN, y, by omega, by simp [t6], by simp [t7], by simp, by simp [t3, hyb], ?_⟩
              rw [hT, topV_snoc, hok, if_pos rfl, hmax]
              exact rowZ
            | succ k2 =>
              have e2 : ((n : Int) < (dq : Int)) := by omega
              obtain ⟨z, H3, ap, row3, n3, z3, k3⟩ := row_push2 (e := [iv 0]) 8 row rfl (by decide) (by omega)
              rw [show ci (wideN n (L.take i)) ++ [iv 0] = ci (wideN (n + 1) (L.take i)) by rw [ci_snoc, wideN_pad hn1]] at row3
              have t3' := t3
              rw [hy] at t3 ap
              simp [L6_1, t3, t5, ld4, e2, z1, ap]
              have ldZ : H3.load ⟨H1.next, 4, none⟩ = some (iv (dq : Int)) := by
                rw [load_frame (row3.on.base.trans row.on.base.symm) (k3 _ hp hpy)]
                exact ld4
              have pZ : H1.next < H3.next := by omega
              exact ⟨k2, Nat.lt_succ_self _, n + 1, z, by omega, by simp [t6], by simp [t7], by simp [t8], by simp, by simp [t5], by omega, by omega, by omega, row3, ldZ, pZ, fun hb => by have := z3 _ hb; omega⟩
theorem make_ints {H : Heap} (hw : H.WF) (n : Nat) (hn : n ≤ 100000) : sMake H 3 1 8 [iv 0] (iv n) (iv n) = some (.slice (some ⟨H.next, 0, none⟩) n 0, H.new 3 1 (ci (List.replicate n 0))) := by
  have h1 : (0 : Int) ≤ (n : Int) ∧ (n : Int) ≤ (n : Int) ∧ ((8 : Nat) : Int) * (n : Int) ≤ 140737488355328 ∧ (n : Int) ≤ 9223372036854775807 := by omega
  have h2 : (8 : Nat) * n ≤ 140737488355328 := by omega
  have h3 : n ≤ 9223372036854775807 := by omega
  simp only [sMake]
  simp [h1, h2, h3, zerosA_one, ci]
  try omega
def InvV1 (H : Heap) (x : Value) (L : List Tk) (k : Nat) (t : Tm) (H1 : Heap) : Prop :=
  ∃ i, i + k = L.length ∧ t 0 = x ∧ t 4 = iv i ∧ t 3 = iv (topV (L.take i)) ∧ H1 = H
def InvV2 (H : Heap) (x : Value) (L : List Tk) (k : Nat) (t : Tm) (H1 : Heap) : Prop :=
  ∃ i y, i + k = L.length ∧ t 0 = x ∧ t 6 = iv i ∧ t 3 = iv (topV L) ∧ t 5 = y ∧ Row H H1 3 1 (topV L) (ci (wideN (topV L) (L.take i))) y
theorem le_topV : ∀ {L : List Tk} {t : Tk}, t ∈ L → t.ok = true → t.deep.toNat ≤ topV L
  | [], t, h, _ => by cases h
  | a :: L, t, h, ht => by
    rcases List.mem_cons.1 h with rfl | h
    · rw [topV, if_pos ht]; omega
    · have := le_topV h ht
      rw [topV]
      split <;> omega
theorem docWide_E {H : Heap} (hw : H.WF) {x : Value} {L : List Tk} (hx : TkL H x L) (hl : L.length ≤ 100000) : TE Try.prog 7 [x] H (WideF H L) := by
  refine TE_by hm light7 ?_
  obtain ⟨Q, hQ⟩ : ∃ Q, Q = WideF H L := ⟨_, rfl⟩
  rw [← hQ]
  obtain ⟨a, c, hxa⟩ := hx.len
  have htop := topV_le L
  simp [L7]
  refine loop_at (InvV1 H x L) L.length ?_ ?_
  · exact ⟨0, by omega, by simp, by simp, by simp [topV], rfl⟩
  · rintro k t H1 ⟨i, hik, t0, t4, t3, rfl⟩
    cases k with
    | zero =>
      have e1 : ¬ ((i : Int) < L.length) := by omega
      rw [List.take_of_length_le (by omega)] at t3
      have mk := make_ints hw (topV L) (by omega)
      have t0' := t0
      rw [hxa] at t0
      obtain ⟨HA, hHA⟩ : ∃ HA, HA = H1.new 3 1 (ci (List.replicate (topV L) 0)) := ⟨_, rfl⟩
      have onA : On H1 HA := by rw [hHA]; exact (On.refl hw).new _ _ _
      have rowA : Row H1 HA 3 1 (topV L) (ci (wideN (topV L) [])) (.slice (some ⟨H1.next, 0, none⟩) (topV L) 0) := by
        have hnB := hw.next_ge
        refine ⟨?_, onA, fun b hb => by simp at hb; omega⟩
        rw [wideN_nil, hHA]
        exact Own.mk (by rw [ci_len]; simp) (by simpa using hnB) (by simp)
      simp [L7_1, t0, t4, e1, t3, mk]
      rw [← hHA]
      refine loop_at (InvV2 H1 x L) L.length ?_ ?_
      · exact ⟨0, _, by omega, by simp [t0'], by simp, by simp [t3], by simp, rowA⟩
      · rintro k t H2 ⟨i, y, hik, t0, t6, t3, t5, row⟩
        obtain ⟨ay, hy⟩ := row.own.len
        cases k with
        | zero =>
          have e1 : ¬ ((i : Int) < L.length) := by omega
          rw [List.take_of_length_le (by omega)] at row
          rw [hxa] at t0
          simp [L7_2, t0, t6, e1, t5]
          exact ⟨by rw [hy]; rfl, by rw [hQ]; exact ⟨y, rfl, row⟩⟩
        | succ k =>
          have hil : i < L.length := by omega
          have e1 : ((i : Int) < L.length) := by omega
          have e4 : IntKind.i64.wrap ((i : Int) + 1) = ((i + 1 : Nat) : Int) := by rw [w64 _ (by omega)]; omega
          obtain ⟨iN, hiN⟩ : ∃ n : Nat, n = i + 1 := ⟨_, rfl⟩
          have hT : L.take iN = L.take i ++ [L[i]] := by rw [hiN]; exact take_snoc hil
          rw [← hiN] at e4
          obtain ⟨b, off, c', u, v, z, A⟩ := hx.at hil
          have hmem : L[i] ∈ L := List.getElem_mem hil
          obtain ⟨tk, htk⟩ : ∃ tk, tk = L[i] := ⟨_, rfl⟩
          rw [← htk] at A hT hmem
          have l4 := (A.on hw row.on).c4
          have t0' := t0
          rw [A.hx] at t0
          by_cases h1 : 1 ≤ tk.deep
          · by_cases h2 : tk.deep ≤ (topV L : Int)
            · have hok : tk.ok = true := by simp [Tk.ok]; omega
              obtain ⟨dp, hdp0⟩ : ∃ dp : Nat, tk.deep = ((dp + 1 : Nat) : Int) := ⟨tk.deep.toNat - 1, by omega⟩
              obtain ⟨dq, hdq⟩ : ∃ dq, dq = dp + 1 := ⟨_, rfl⟩
              have hdp : tk.deep = (dq : Int) := by rw [hdp0, hdq]
              have hd : dp < topV L := by omega
              have e5 : IntKind.i64.wrap ((dq : Int) - 1) = (dp : Int) := by rw [w64 _ (by omega)]; omega
              obtain ⟨_, bb, hyb, ldc, stc⟩ := own_cell row.own (i := dp) (by rw [wideN_len]; exact hd)
              have hcv : (wideN (topV L) (L.take i))[dp]'(by rw [wideN_len]; exact hd) = ((cntV dp (L.take i) : Nat) : Int) := by
                have := wideN_get (l := L.take i) hd
                rw [List.getElem?_eq_getElem (by rw [wideN_len]; exact hd)] at this
                exact Option.some.inj this
              rw [hcv] at ldc
              obtain ⟨cn, hcn⟩ : ∃ cn, cn = cntV dp (L.take i) := ⟨_, rfl⟩
              have hcl : cn ≤ L.length := by
                have := cntV_le dp (L.take i)
                rw [List.length_take] at this
                omega
              rw [← hcn] at ldc
              have e6 : IntKind.i64.wrap ((cn : Int) + 1) = (cn : Int) + 1 := w64 _ (by omega)
              obtain ⟨cs, st, own'⟩ := stc ((cn : Int) + 1)
              have hset := wideN_set (n := topV L) (t := tk) (l := L.take i) hok (d := dp) (by rw [hdp]; omega) hd
              rw [← hcn] at hset
              rw [hset] at own'
              have rowZ : Row H1 (H2.put bb cs) 3 1 (topV L) (ci (wideN (topV L) (L.take i ++ [tk]))) y := ⟨own', row.on.put (row.new bb (by rw [hyb]; rfl)) _, row.new⟩
              rw [hdp] at l4 h1 h2
              rw [hyb] at t5
              simp [L7_2, t0, t6, e1, hil, l4, t3, h1, h2, t5, e5, hd, ldc, e6, st, e4]
              refine ⟨k, by omega, iN, y, by omega, by simp [t0'], by simp, by simp [t3], by simp [t5, hyb], ?_⟩
              rw [hT]
              exact rowZ
            · have hno : tk.ok = false := by
                cases hok : tk.ok with
                | false => rfl
                | true =>
                  have := le_topV hmem hok
                  omega
              simp [L7_2, t0, t6, e1, hil, l4, t3, h1, h2, e4]
              refine ⟨k, by omega, iN, y, by omega, by simp [t0'], by simp, by simp [t3], by simp [t5], ?_⟩
              rw [hT, wideN_skip hno]
              exact row
          · have hno : tk.ok = false := by simp [Tk.ok]; omega
            simp [L7_2, t0, t6, e1, hil, l4, t3, h1, e4]
            refine ⟨k, by omega, iN, y, by omega, by simp [t0'], by simp, by simp [t3], by simp [t5], ?_⟩
            rw [hT, wideN_skip hno]
            exact row
    | succ k =>
      have hil : i < L.length := by omega
      have e1 : ((i : Int) < L.length) := by omega
      have e4 : IntKind.i64.wrap ((i : Int) + 1) = ((i + 1 : Nat) : Int) := by rw [w64 _ (by omega)]; omega
      obtain ⟨iN, hiN⟩ : ∃ n : Nat, n = i + 1 := ⟨_, rfl⟩
      have hT : L.take iN = L.take i ++ [L[i]] := by rw [hiN]; exact take_snoc hil
      rw [← hiN] at e4
      obtain ⟨b, off, c', u, v, z, A⟩ := hx.at hil
      obtain ⟨tk, htk⟩ : ∃ tk, tk = L[i] := ⟨_, rfl⟩
      rw [← htk] at A hT
      have l4 := A.c4
      have t0' := t0
      rw [A.hx] at t0
      obtain ⟨tp, htp⟩ : ∃ tp, tp = topV (L.take i) := ⟨_, rfl⟩
      rw [← htp] at t3
      by_cases h1 : (tp : Int) < tk.deep
      · by_cases h2 : tk.deep ≤ 200
        · have hok : tk.ok = true := by simp [Tk.ok]; omega
          simp [L7_1, t0, t4, e1, hil, l4, t3, h1, h2, e4]
          refine ⟨k, by omega, iN, by omega, by simp [t0'], by simp, ?_, rfl⟩
          rw [hT, topV_snoc, hok, if_pos rfl, ← htp]
          simp
          omega
        · have hno : tk.ok = false := by simp [Tk.ok]; omega
          simp [L7_1, t0, t4, e1, hil, l4, t3, h1, h2, e4]
          refine ⟨k, by omega, iN, by omega, by simp [t0'], by simp, ?_, rfl⟩
          rw [hT, topV_snoc, hno, ← htp]
          simp [t3]
      · simp [L7_1, t0, t4, e1, hil, l4, t3, h1, e4]
        refine ⟨k, by omega, iN, by omega, by simp [t0'], by simp, ?_, rfl⟩
        rw [hT, topV_snoc, ← htp]
        have : (if tk.ok = true then max tp tk.deep.toNat else tp) = tp := by split <;> omega
        rw [this]
        simp [t3]
end Go.Proofs.Ytfmcnojojknkfaa
