/-
  PackOwn: what is answered stands in new memory.
-/
import Derived.Test.YtpcgganldmmpoaaSeatY
namespace Go.Proofs.Ytpcgganldmmpoaa
open Go.Ot Go.ChangeShapes Go.WideShapes Go.ChangeAt Go.RowKit
set_option linter.unusedSimpArgs false
set_option linter.unusedVariables false
/-- A row of bytes stands at y; all else is as it was. -/
structure Tn (H H1 : Heap) (y : Value) (n : Nat) : Prop where
  own : ∃ l : List Nat, l.length = n ∧ Own H1 5 1 n (bc l) y ∧ ∀ b ∈ l, b < 256
  base : H1.base = H.base
  next : H1.next = H.next
  wf : H1.WF
  same : ∀ b, blkOf y ≠ some b → H1.blk b = H.blk b
theorem xor_byte (c : Nat) : ∃ d : Nat, d < 256 ∧ sBin .xor (.int .u8 (c : Int)) (.int .u8 255) = some (.int .u8 (d : Int)) := by
  rw [sBin_xor]
  refine ⟨_, ?_, by rw [wu8_mod]⟩
  exact Nat.mod_lt _ (by decide)
theorem Tn.turn {H H1 : Heap} {y : Value} {n : Nat} (h : Tn H H1 y n) {i : Nat} (hi : i < n) :
    ∃ b c d H2, y = sl b n ∧ H1.load ⟨b, i, none⟩ = some (.int .u8 ((c : Nat) : Int)) ∧ sBin .xor (.int .u8 (c : Int)) (.int .u8 255) = some (.int .u8 ((d : Nat) : Int)) ∧ H1.store ⟨b, i, none⟩ (.int .u8 (d : Int)) = some H2 ∧ Tn H H2 y n := by
  obtain ⟨l, hl, ho, hb⟩ := h.own
  subst hl
  rcases ho.2 with ⟨_, h0⟩ | ⟨b, rest, hy, hB, hk⟩
  · omega
  · obtain ⟨d, hd, hx⟩ := xor_byte l[i]
    refine ⟨b, l[i], d, H1.put b (bc (l.set i d) ++ rest), hy, ?_, hx, ?_, ⟨⟨l.set i d, by simp, ⟨by simp [bc_len], .inr ⟨b, rest, by simpa using hy, by simpa using hB, by simp [hk]⟩⟩, ?_⟩, h.base, h.next, WF_put h.wf _ _, ?_⟩⟩
    · rw [load_at hB hk, List.getElem?_append_left (by rw [bc_len]; exact hi)]
      simp [bc, hi]
    · rw [store_own hB hk, if_pos (by rw [List.length_append, bc_len]; omega), List.set_append_left _ _ (by rw [bc_len]; exact hi)]
      simp [bc, List.map_set]
    · intro c hc
      rcases List.mem_or_eq_of_mem_set hc with h1 | h1
      · exact hb c h1
      · omega
    · intro c hc
      have m1 : c ≠ b := fun e => hc (by rw [hy, e]; rfl)
      simp [m1]
      exact h.same c hc
def encTs (l : List It) : List Nat := l.flatMap fun a => encU a.s.size ++ sb a.s
theorem encTs_append (a b : List It) : encTs (a ++ b) = encTs a ++ encTs b := by simp [encTs]
theorem encTs_len {l : List It} (h : ∀ a ∈ l, a.s.size ≤ 1024 ∧ a.l.length ≤ 256) : (encTs l).length ≤ 3000 * l.length := by
  induction l with
  | nil => simp [encTs]
  | cons a l ih =>
    have h1 := ih (fun b hb => h b (by simp [hb]))
    have h2 := h a (by simp)
    have h3 := encU_len 9 a.s.size (by omega)
    have h4 := sb_len a.s
    have e : encTs (a :: l) = encU a.s.size ++ sb a.s ++ encTs l := by simp [encTs]
    rw [e, List.length_append, List.length_append, List.length_cons]; omega
theorem encTs_b (l : List It) : ∀ b ∈ encTs l, b < 256 := by
  intro b hb
  simp only [encTs, List.mem_flatMap] at hb
  obtain ⟨a, _, hb⟩ := hb
  rcases List.mem_append.1 hb with h | h
  · exact encU_b _ b h
  · exact sb_b _ b h
theorem uS_small {l : List Nat} (h : 0 < l.length) (h2 : l[0] < 128) : (uS l 0).1 = l[0] := by
  match l, h with
  | c :: rest, _ =>
    have h3 : c < 128 := h2
    simp [uS, tu, h3]
    try exact Nat.mod_eq_of_lt h3
def InvO1 (H : Heap) (p : Nat) (x x1 : Value) (l : List It) (k : Nat) (t : Tm) (H1 : Heap) : Prop :=
  ∃ (i : Nat) (x' : Value), i + k = l.length ∧ t 0 = x ∧ t 1 = x1 ∧ t 5 = ptr p ∧ t 6 = .int .i64 (i : Nat) ∧ AF H H1 p (.slice none 0 0) (encTs (l.take i)) x'
def InvO2 (H : Heap) (p : Nat) (x1 y : Value) (s : ByteArray) (n : Nat) (k : Nat) (t : Tm) (H1 : Heap) : Prop :=
  ∃ (i : Nat), i + k = n ∧ t 1 = x1 ∧ t 5 = ptr p ∧ t 7 = y ∧ t 8 = .string s ∧ t 9 = .int .i64 (i : Nat) ∧ Tn H H1 y n
def InvO3 (H : Heap) (p r : Nat) (x1 y : Value) (s : ByteArray) (n : Nat) (k : Nat) (t : Tm) (H1 : Heap) : Prop :=
  ∃ (i : Nat), i + k = n ∧ t 1 = x1 ∧ t 5 = ptr p ∧ t 8 = .string s ∧ t 10 = y ∧ t 11 = ptr r ∧ t 12 = .int .i64 (i : Nat) ∧ Tn H H1 y n
theorem own_T {H : Heap} (hw : H.WF) {x : Value} {l : List It} (h : Items H x l) {x1 : Value} {xs1 : List Int} (hx1 : IntsB H .u8 x1 xs1) (wx1 : ∀ n ∈ xs1, (Lit.int .u8 n).wf = true) : ∃ v H', T Try.prog 6 [x, x1] H v H' ∧ v = .bool true := by
  obtain ⟨body, b1, lt1, hb1⟩ := bs_of hx1 wx1
  refine T_by hm light6 ?_
  obtain ⟨xa, xc, hxl⟩ := h.len
  obtain ⟨ya, yc, hyl⟩ := b1.len
  have Ts := small_T h
  cases hs : smallB l with
  | false =>
    rw [hs] at Ts
    simp [L6]
    refine goT_of Ts ?_
    simp
  | true =>
    rw [hs] at Ts
    by_cases h4 : 4096 < body.length
    · rw [hyl]
      simp [L6]
      refine goT_of Ts ?_
      simp [h4]
    obtain ⟨h64, hsm⟩ := small_of hs
    have W0 := new_WR hw
    have w0 : (H.new 73 1 [.slice none 0 0]).WF := WF_new hw _ _ _
    obtain ⟨H0, hH0⟩ : ∃ H0, H0 = H.new 73 1 [.slice none 0 0] := ⟨_, rfl⟩
    have T0 := new_T hw
    rw [← hH0] at T0 W0 w0
    have b0 : H0.base = H.base := by rw [hH0]; rfl
    have n0 : H0.next = H.next + 1 := by rw [hH0]; rfl
    have k0 : ∀ b, b < H.next → H0.blk b = H.blk b := fun b hb => by rw [hH0]; simp [show b ≠ H.next by omega]
    have h0 := h.keep b0
    rw [hyl]
    simp [L6]
    refine goT_of Ts ?_
    simp [h4]
    refine goT_of T0 ?_
    simp [fitsNil, isNil]
    rw [← hyl]
    refine loop_at (InvO1 H0 H.next x x1 l) l.length ?_ ?_
    · exact ⟨0, _, by omega, by simp, by simp, by simp, by simp, Aft.refl w0 W0⟩
    · rintro k t H1 ⟨i, x', hik, t0, t1, t5, t6, a⟩
      have hlen : ∀ i, (encTs (l.take i)).length ≤ 3000 * 64 := by
        intro i
        have := encTs_len (l := l.take i) (fun b hb => hsm b (List.mem_of_mem_take hb))
        have h3 : (l.take i).length ≤ 64 := by simp; omega
        exact Nat.le_trans this (Nat.mul_le_mul_left _ h3)
      cases k with
      | succ k =>
        have hi : i < l.length := by omega
        obtain ⟨b, off, c, hx, hk, l0, l1, l2, l3, l4, l5⟩ := (h0.keep a.base).at hi
        have e3 : IntKind.i64.wrap ((i : Int) + 1) = ((i + 1 : Nat) : Int) := by rw [w64 _ (by omega)]; omega
        obtain ⟨i1, hi1⟩ : ∃ i1, i1 = i + 1 := ⟨_, rfl⟩
        rw [← hi1] at e3
        have hli := hlen i
        have hki := hsm _ (List.getElem_mem hi)
        obtain ⟨v2, H2, T2, x2, a2⟩ := text_T a.wf a.wr l[i].s (by omega) (by omega)
        simp [L6_1, t0, t5, t6, hx, hi, l4]
        refine goT_of T2 ?_
        simp [t6, e3]
        rw [← hx]
        refine ⟨k, Nat.lt_succ_self k, i1, x2, by omega, by simp [t0], by simp [t1], by simp [t5], by simp, ?_⟩
        have en : encTs (l.take i1) = encTs (l.take i) ++ encU l[i].s.size ++ sb l[i].s := by rw [hi1, List.take_succ_eq_append_getElem hi, encTs_append]; simp [encTs]
        rw [en]
        exact a.trans a2
      | zero =>
        have e0 : i = l.length := by omega
        subst e0
        have hl := hlen l.length
        rw [List.take_length] at a hl
        obtain ⟨bs, hbs⟩ : ∃ bs, bs = encTs l := ⟨_, rfl⟩
        have ltb : ∀ b ∈ bs, b < 256 := by rw [hbs]; exact encTs_b l
        rw [← hbs] at a hl
        have hkp := a.next
        obtain ⟨y, H2, T2, o2, hn2, s2⟩ := bytes_T a.wf a.wr (by omega)
        obtain ⟨va, hva⟩ := o2.len
        have z2 := toStr_bs (own_bs o2)
        rw [hxl] at t0
        simp [L6_1, t0, t6]
        refine goT_of (by rw [t5]; exact T2) ?_
        have hyb : y = .slice va bs.length 0 := hva
        rw [hyb]
        rw [hyb] at z2
        simp [z2]
        rw [← hyb]
        have S0 : Tn H2 H2 y bs.length := ⟨⟨bs, rfl, o2, ltb⟩, rfl, rfl, T2.grow.wf a.wf, fun _ _ => rfl⟩
        refine loop_at (InvO2 H2 H.next x1 y (strB bs) bs.length) bs.length ?_ ?_
        · exact ⟨0, by omega, by simp [t1], by simp [t5], by simp, by simp, by simp, S0⟩
        · rintro k t H3 ⟨i, hik, t1, t5, t7, t8, t9, S⟩
          cases k with
          | succ k =>
            have hi : i < bs.length := by omega
            obtain ⟨b, c, d, H4, hy, ld, ex, st, S'⟩ := S.turn hi
            have e3 : IntKind.i64.wrap ((i : Int) + 1) = ((i + 1 : Nat) : Int) := by rw [w64 _ (by omega)]; omega
            obtain ⟨i1, hi1⟩ : ∃ i1, i1 = i + 1 := ⟨_, rfl⟩
            rw [← hi1] at e3
            simp [L6_2, t7, t9, hy, hi, ld, ex, st, e3]
            exact ⟨k, Nat.lt_succ_self k, i1, by omega, by simp [t1], by simp [t5], by simp [t7, hy], by simp [t8], by simp, by rw [← hy]; exact S'⟩
          | zero =>
            have e0 : i = bs.length := by omega
            subst e0
            have n2 := T2.grow.next
            have base3 : H3.base = H.base := S.base.trans (T2.1.trans (a.base.trans b0))
            have old3 : ∀ b, b < H1.next → H3.blk b = H1.blk b := fun b hb => by
              rw [S.same b (fun e => by have := hn2 b e; omega), s2 b hb (by simp)]
            have old3' : ∀ b, b < H.next → H3.blk b = H.blk b := fun b hb => by
              rw [old3 b (by omega), a.same b (by omega) (by omega) (by simp), k0 b hb]
            have b3 := b1.keep hw base3 old3'
            obtain ⟨o, HD, hap, aD⟩ := copied S.wf b3 (by omega)
            obtain ⟨v1, HE, T4, r, rx, rfl, hrd, hrn, wE, bE, sE, hrlt, hrge⟩ := read_T2 aD.wf (own_bs aD.own) lt1 (by omega)
            have nD := aD.next
            have nE := T4.grow.next
            have own4 : Own HE 5 1 body.length (bc body) (.slice o body.length 0) := aD.own.keep (B_eq bE) (fun b hb => sE b (aD.own.lt aD.wf hb) (by simp))
            have Q0 : Tn HE HE (.slice o body.length 0) body.length := ⟨⟨body, rfl, own4, lt1⟩, rfl, rfl, wE, fun _ _ => rfl⟩
            rw [hyl] at hap
            have t1' := t1
            rw [hyl] at t1
            simp [L6_2, t1, t7, t9, hva, hap]
            refine goT_of T4 ?_
            simp
            refine loop_at (InvO3 HE H.next r x1 (.slice o body.length 0) (strB bs) body.length) body.length ?_ ?_
            · exact ⟨0, by omega, by simp [t1'], by simp [t5], by simp [t8], by simp, by simp, by simp, Q0⟩
            · rintro k t HF ⟨i, hik, t1, t5, t8, t10, t11, t12, Q⟩
              cases k with
              | succ k =>
                have hi : i < body.length := by omega
                obtain ⟨b, c, d, H4, hy, ld, ex, st, Q'⟩ := Q.turn hi
                have e3 : IntKind.i64.wrap ((i : Int) + 1) = ((i + 1 : Nat) : Int) := by rw [w64 _ (by omega)]; omega
                obtain ⟨i1, hi1⟩ : ∃ i1, i1 = i + 1 := ⟨_, rfl⟩
                rw [← hi1] at e3
                simp [L6_3, t10, t12, hy, hi, ld, ex, st, e3]
                exact ⟨k, Nat.lt_succ_self k, i1, by omega, by simp [t1], by simp [t5], by simp [t8], by simp [t10, hy], by simp [t11], by simp, by rw [← hy]; exact Q'⟩
              | zero =>
                have e0 : i = body.length := by omega
                subst e0
                have ob : ∀ b, blkOf (.slice o body.length 0) = some b → H3.next ≤ b ∧ b < HD.next := fun b hb => by
                  refine ⟨?_, aD.own.lt aD.wf hb⟩
                  rcases aD.old b hb with h1 | h1
                  · cases h1
                  · exact h1
                have baseF : HF.base = H.base := Q.base.trans (bE.trans (aD.base.trans base3))
                have n3 := S.next
                have oldF : ∀ b, b < H1.next → HF.blk b = H1.blk b := fun b hb => by
                  rw [Q.same b (fun e => by have := (ob b e).1; omega), sE b (by omega) (by simp), aD.olds b (by omega), old3 b hb]
                have oldF' : ∀ b, b < H.next → HF.blk b = H.blk b := fun b hb => by
                  rw [oldF b (by omega), a.same b (by omega) (by omega) (by simp), k0 b hb]
                have bF := b1.keep hw baseF oldF'
                have rF : RS HF r rx body body 0 := by
                  have hrs : RS HE r rx body body 0 := ⟨by simpa using hrd, List.suffix_refl _⟩
                  refine hrs.frame Q.base (Q.same r (fun e => by have := (ob r e).2; omega)) (fun b hb => Q.same b (fun e => ?_))
                  have h1 := hrge b hb
                  have h2 := (ob b e).2
                  omega
                have T5 := ruint_T rF
                obtain ⟨HG, hHG⟩ : ∃ HG, HG = HF.put r (rsC rx body (uS body 0).2.1 (uS body 0).2.2) := ⟨_, rfl⟩
                rw [← hHG] at T5
                have wG : HG.WF := by rw [hHG]; exact WF_put Q.wf _ _
                have oldG : ∀ b, b < H1.next → HG.blk b = H1.blk b := fun b hb => by
                  rw [hHG]
                  simp [show b ≠ r by omega]
                  exact oldF b hb
                have baseG : HG.base = H1.base := by rw [hHG]; exact baseF.trans (b0.symm.trans a.base.symm)
                have wrG : WR HG H.next bs x' := a.wr.keep a.wf (B_eq baseG) oldG
                obtain ⟨v6, H6, T6, o6, hn6, s6⟩ := bytes_T wG wrG (by omega)
                obtain ⟨v6a, hv6⟩ := o6.len
                have z6 := toStr_bs (own_bs o6)
                obtain ⟨v7, H7, T7, rfl, _⟩ := alive_T (T6.grow.wf wG)
                have q := eql_str ltb ltb
                simp only [decide_true] at q
                obtain ⟨u, hu⟩ : ∃ u, u = (uS body 0).1 := ⟨_, rfl⟩
                rw [← hu] at T5
                rw [hyl] at t1
                by_cases hnil : body = []
                · subst hnil
                  simp [L6_3, t1, t10, t12]
                  refine goT_of (by rw [t11]; exact T5) ?_
                  simp [t5]
                  refine goT_of T6 ?_
                  simp [z6, t8, q, t1]
                  refine goT_of T7 ?_
                  simp
                · have hpos : 0 < body.length := List.length_pos_iff.2 hnil
                  obtain ⟨b, off, c, hx, ld⟩ := bF.at hpos
                  rw [hyl] at hx
                  simp only [Value.slice.injEq, and_true, true_and] at hx
                  obtain ⟨rfl, rfl⟩ := hx
                  have ld' : HF.load ⟨b, off, none⟩ = some (.int .u8 ((body[0] : Nat) : Int)) := ld
                  obtain ⟨f, hf⟩ : ∃ f, f = body[0] := ⟨_, rfl⟩
                  rw [← hf] at ld'
                  by_cases h128 : 128 ≤ f
                  · simp [L6_3, t1, t10, t12, hpos, ld']
                    refine goT_of (by rw [t11]; exact T5) ?_
                    simp [t5]
                    refine goT_of T6 ?_
                    simp [z6, t8, q, h128]
                    refine goT_of T7 ?_
                    simp
                  · have hu2 : u = f := by
                      rw [hu, hf]
                      rw [hf] at h128
                      exact uS_small hpos (by omega)
                    have c1 : IntKind.u64.wrap (f : Int) = (f : Int) := wu64 _ (by omega)
                    simp [L6_3, t1, t10, t12, hpos, ld']
                    refine goT_of (by rw [t11]; exact T5) ?_
                    simp [t5]
                    refine goT_of T6 ?_
                    simp [z6, t8, q, h128, hnil, c1, hu2, t1]
                    refine goT_of T7 ?_
                    simp
theorem own_U {H : Heap} (hw : H.WF) {x : Value} (h : Rd Try.prog H 5 22 [x]) {x1 : Value} {xs1 : List Int} (hx1 : IntsB H .u8 x1 xs1) (wx1 : ∀ n ∈ xs1, (Lit.int .u8 n).wf = true) : ∃ v H', T Try.prog 6 [x, x1] H v H' ∧ v = .bool true := by
  obtain ⟨l, hl⟩ := items_of h
  exact own_T hw hl hx1 wx1
end Go.Proofs.Ytpcgganldmmpoaa
