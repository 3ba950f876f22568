/-
  PackTakes answers true at every input.
-/
import Derived.Test.YtpcgganldmmpoaaSeatAH
namespace Go.Proofs.Ytpcgganldmmpoaa
open Go.Ot
set_option linter.unusedSimpArgs false
set_option linter.unusedVariables false
theorem Bs.pastTwo {H H' : Heap} {q : Nat} {xr a : Value} {n : Int} {l : List Nat} (h : Bs H xr l) (hv : Two H q a (.int .i64 n)) (ha : ∃ z m c, a = .slice z m c) (hw : H.WF) (hb : H'.base = H.base) (hs : ∀ b, b < H.next → b ≠ q → H'.blk b = H.blk b) : Bs H' xr l := by
  rcases h with h | ⟨c, off, cc, rfl, h⟩
  · exact .inl h
  · refine .inr ⟨c, off, cc, rfl, fun i hi => ?_⟩
    have h1 := h i hi
    have hlt := load_lt hw h1
    have hne : c ≠ q := by
      intro e
      subst e
      rw [hv.load] at h1
      obtain ⟨z, m, c2, hx⟩ := ha
      rw [hx] at h1
      match off + i, h1 with
      | 0, h1 => simp at h1
      | 1, h1 => simp at h1
      | k + 2, h1 => simp at h1
    rw [load_off hb (hs c hlt hne)]
    exact h1
structure TK (H H1 : Heap) (p q : Nat) (x : Value) (b l : List Nat) (f : Nat) (xr : Value) : Prop where
  rs : RS H1 p x b l f
  xl : ∀ b, blkOf x = some b → b < H1.next
  v : Two H1 q xr (.int .i64 (f : Int))
  pq : p ≠ q
  xq : blkOf x ≠ some q
  bs : Bs H1 xr l
  wf : H1.WF
  base : H1.base = H.base
  next : H.next ≤ H1.next
  hp : H.next ≤ p
  hq : H.next ≤ q
  old : ∀ b, b < H.next → H1.blk b = H.blk b
  small : l.length ≤ 4096
def InvTk (H : Heap) (p q : Nat) (x x1 : Value) (b : List Nat) (cs : List Int) (k : Nat) (t : Tm) (H1 : Heap) : Prop :=
  ∃ (i : Nat) (l : List Nat) (f : Nat) (xr : Value), i + k = cs.length ∧ t 1 = x1 ∧ t 5 = ptr p ∧ t 6 = ptr q ∧ t 7 = iz i ∧ TK H H1 p q x b l f xr
theorem takes_T {H : Heap} (hw : H.WF) {x0 x1 : Value} {xs0 cs : List Int} (hx0 : IntsB H .u8 x0 xs0) (wx0 : ∀ n ∈ xs0, (Lit.int .u8 n).wf = true) (hx1 : Ints H .i64 x1 cs) : ∃ v H', T Try.prog 8 [x0, x1] H v H' ∧ v = .bool true := by
  obtain ⟨b, b0, lt0, -⟩ := bs_of hx0 wx0
  refine T_by hm light8 ?_
  have hl0 := b0.lenL
  obtain ⟨ca, cc, hcl⟩ := hx1.len
  by_cases h0 : 4096 < b.length
  · simp [L8, hl0, h0]
  by_cases h1 : 64 < cs.length
  · rw [hcl]
    simp [L8, hl0, h0, h1]
  obtain ⟨c0, HA, hap, aA⟩ := copied hw b0 (by omega)
  obtain ⟨v1, HB, T1, p, x, rfl, hrd, hpn, wB, bB, sB, hxlt, hxge⟩ := read_T2 aA.wf (own_bs aA.own) lt0 (by omega)
  have nA := aA.next
  have nB := T1.grow.next
  have bHB : HB.base = H.base := bB.trans aA.base
  have kB : ∀ c, c < H.next → HB.blk c = H.blk c := fun c hc => (sB c (by omega) (by simp)).trans (aA.olds c hc)
  obtain ⟨c2, HC, hap2, aC⟩ := copied wB (b0.keep hw bHB kB) (by omega)
  have nC := aC.next
  have bsC := own_bs aC.own
  have hpl := wB.lt hrd.bp
  have rsB : RS HB p x b b 0 := ⟨by simpa using hrd, List.suffix_refl _⟩
  obtain ⟨HD, hHD⟩ : ∃ HD, HD = HC.new 53 2 [.slice c2 b.length 0, .int .i64 0] := ⟨_, rfl⟩
  have stD := (Two.mk' aC.wf (.slice none 0 0) (.int .i64 0)).storeA (.slice c2 b.length 0) (.int .i64 0)
  rw [new_put, ← hHD] at stD
  have kD : ∀ c, c < HC.next → HD.blk c = HC.blk c := fun c hc => by rw [hHD]; simp [show c ≠ HC.next by omega]
  have K0 : TK H HD p HC.next x b b 0 (.slice c2 b.length 0) := by
    refine ⟨rsB.frame (by rw [hHD]; exact aC.base) ((kD p (by omega)).trans (aC.olds p hpl)) (fun c hc => (kD c (by have := hxlt c hc; omega)).trans (aC.olds c (hxlt c hc))), ?_, ?_, by omega, fun e => by have := hxlt _ e; omega, ?_, ?_, ?_, ?_, by omega, by omega, ?_, by omega⟩
    · intro c hc; have := hxlt c hc; rw [hHD]; simp; omega
    · rw [hHD]; exact Two.mk' aC.wf _ _
    · exact bsC.keep aC.wf (by rw [hHD]; rfl) kD
    · rw [hHD]; exact WF_new aC.wf _ _ _
    · rw [hHD]; exact aC.base.trans bHB
    · rw [hHD]; simp; omega
    · intro c hc; rw [kD c (by omega), aC.olds c (by omega), kB c hc]
  have hll : ¬ (4096 < (b.length : Int)) := by omega
  rw [hcl]
  simp [L8, hl0, h0, h1, hap]
  refine goT_of T1 ?_
  simp [fitsNil, isNil, hap2, stD]
  rw [← hcl]
  refine loop_at (InvTk H p HC.next x x1 b cs) cs.length ?_ ?_
  · exact ⟨0, b, 0, _, by omega, by simp [hcl], by simp, by simp, by simp, K0⟩
  · rintro k t H1 ⟨i, l, f, xr, hik, t1, t5, t6, t7, K⟩
    have ic : Ints H1 .i64 x1 cs := hx1.keep hw K.base K.old
    cases k with
    | zero =>
      have ei : i = cs.length := by omega
      subst ei
      rw [hcl] at t1
      obtain ⟨v7, HG, T7, rfl, _⟩ := alive_T K.wf
      simp [L8_1, t1, t7]
      refine goT_of T7 ?_
      simp
    | succ k =>
      have hi : i < cs.length := by omega
      obtain ⟨bb, off, c', hxc, ldc⟩ := ic.at hi
      have e4 : IntKind.i64.wrap ((i : Int) + 1) = ((i + 1 : Nat) : Int) := by rw [w64 _ (by omega)]; omega
      obtain ⟨i1, hi1⟩ : ∃ i1, i1 = i + 1 := ⟨_, rfl⟩
      rw [← hi1] at e4
      obtain ⟨v2, H2, T2, xr', l', f', rfl, rs2, bs2, suf, s2⟩ := took_T K.wf K.rs K.xl K.bs (by have := K.small; omega) cs[i]
      have w2 := T2.grow.wf K.wf
      have n2 := T2.grow.next
      have v2 : Two H2 HC.next xr (.int .i64 (f : Int)) := K.v.keep T2.1 (s2 _ (K.wf.lt K.v.bp) (by simpa using K.pq.symm))
      have st3 := v2.storeA xr' (.int .i64 (f' : Int))
      obtain ⟨H3, hH3⟩ : ∃ H3, H3 = H2.put HC.next [xr', .int .i64 (f' : Int)] := ⟨_, rfl⟩
      rw [← hH3] at st3
      have k3 : ∀ c, c ≠ HC.next → H3.blk c = H2.blk c := fun c hc => by rw [hH3]; simp [hc]
      have w3 : H3.WF := by rw [hH3]; exact WF_put w2 _ _
      have b3 : H3.base = H2.base := by rw [hH3]; simp
      have v3 : Two H3 HC.next xr' (.int .i64 (f' : Int)) := by rw [hH3]; exact v2.put _ _
      have rs3 : RS H3 p x b l' f' := rs2.frame b3 (k3 p K.pq) (fun c hc => k3 c (fun e => K.xq (by rw [← e]; exact hc)))
      have bs3 : Bs H3 xr' l' := bs2.pastTwo v2 K.bs.slice w2 b3 (fun c _ hc => k3 c hc)
      have la := K.v.loadA
      have la3 := v3.loadA
      have T4 := left_S rs3
      obtain ⟨v5, H5, T5, rfl, s5⟩ := leftR_T w3 bs3 f'
      have w5 := T5.grow.wf w3
      have v5 : Two H5 HC.next xr' (.int .i64 (f' : Int)) := v3.keep T5.1 (s5 _ (w3.lt v3.bp) (by simp))
      have n3 : H3.next = H2.next := by rw [hH3]; simp
      have rs5 : RS H5 p x b l' f' := rs3.frame T5.1 (s5 p (w3.lt rs3.rd.bp) (by simp)) (fun c hc => s5 c (by have := K.xl c hc; omega) (by simp))
      have bs5 : Bs H5 xr' l' := bs3.keep w3 T5.1 (fun c hc => s5 c hc (by simp))
      have ld5 := v5.load
      have la5 := v5.loadA
      have T6 := fail_S rs5
      have T7 := rend_T rs5
      obtain ⟨v8, H8, T8, rfl, s8⟩ := endR_T w5 bs5 f'
      have n5 := T5.grow.next
      have n8 := T8.grow.next
      have hlf : (if f' = 0 then l'.length else 0 : Nat) = leftN l' f' := rfl
      rw [hlf] at T4
      have k8 : ∀ c, c < H3.next → H8.blk c = H3.blk c := fun c hc => (s8 c (by omega) (by simp)).trans (s5 c hc (by simp))
      have K8 : TK H H8 p HC.next x b l' f' xr' := by
        have hpH2 := w2.lt rs2.rd.bp
        refine ⟨rs3.frame (T8.1.trans T5.1) (k8 p (by omega)) (fun c hc => k8 c (by have := K.xl c hc; omega)), fun c hc => by have := K.xl c hc; omega, v3.keep (T8.1.trans T5.1) (k8 _ (w3.lt v3.bp)), K.pq, K.xq,
          bs3.keep w3 (T8.1.trans T5.1) k8, T8.grow.wf w5, T8.1.trans (T5.1.trans (b3.trans (T2.1.trans K.base))), by have := K.next; omega, K.hp, K.hq, fun c hc => ?_, Nat.le_trans suf.length_le K.small⟩
        have h1 := K.hp
        have h2 := K.hq
        have h3 := K.next
        rw [k8 c (by omega), k3 c (by omega), s2 c (by omega) (by simp; omega)]
        exact K.old c hc
      have t1' := t1
      rw [hxc] at t1'
      obtain ⟨eN, heN⟩ : ∃ eN, eN = endN l' f' := ⟨_, rfl⟩
      obtain ⟨lN, hlN⟩ : ∃ lN, lN = leftN l' f' := ⟨_, rfl⟩
      rw [← heN] at T7 T8
      rw [← hlN] at T4 T5
      simp only [dR] at T2 T5 T8
      simp [L8_1, t1', t5, t6, t7, hi, ldc, la]
      refine goT_of T2 ?_
      simp [t5, t6, st3, la3]
      refine goT_of T4 ?_
      simp [t5, t6, la3]
      refine goT_of T5 ?_
      simp [t5, t6]
      refine goT_of T6 ?_
      simp [t5, t6, ld5]
      refine goT_of T7 ?_
      simp [t5, t6, la5]
      refine goT_of T8 ?_
      simp [t7, e4]
      exact ⟨k, Nat.lt_succ_self k, i1, l', f', xr', by omega, by simp [t1], by simp [t5], by simp [t6], by simp, K8⟩
theorem takes_U {H : Heap} (hw : H.WF) {x0 x1 : Value} {xs0 cs : List Int} (hx0 : IntsB H .u8 x0 xs0) (wx0 : ∀ n ∈ xs0, (Lit.int .u8 n).wf = true) (hx1 : IntsB H .i64 x1 cs) (_ : ∀ n ∈ cs, (Lit.int .i64 n).wf = true) : ∃ v H', T Try.prog 8 [x0, x1] H v H' ∧ v = .bool true :=
  takes_T hw hx0 wx0 hx1.ints
end Go.Proofs.Ytpcgganldmmpoaa
