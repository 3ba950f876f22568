/-
  The reader beside a writer; what is taken up as a number is that number's bytes.
-/
import Derived.Test.YtpcgganldmmpoaaSeatR
namespace Go.Proofs.Ytpcgganldmmpoaa
open Go.Ot
set_option linter.unusedSimpArgs false
set_option linter.unusedVariables false
theorem left_S {H : Heap} {p : Nat} {x : Value} {b l : List Nat} {fail : Nat} (h : RS H p x b l fail) :
    T Try.prog 25 [ptr p] H (.int .i64 ((if fail = 0 then l.length else 0 : Nat) : Int)) H := by
  have := left_T h.rd
  have hl := h.suf.length_le
  rw [show b.length - (b.length - l.length) = l.length by omega] at this
  exact this
theorem fail_S {H : Heap} {p : Nat} {x : Value} {b l : List Nat} {fail : Nat} (h : RS H p x b l fail) : T Try.prog 26 [ptr p] H (.int .i64 (fail : Int)) H := fail_T h.rd
theorem load_off {H H' : Heap} (hb : H'.base = H.base) {b off : Nat} (hk : H'.blk b = H.blk b) : H'.load ⟨b, off, none⟩ = H.load ⟨b, off, none⟩ := by
  by_cases hB : b < H.B
  · exact load_ext hb hB
  · have hB' : ¬ b < H'.B := by rw [B_eq hb]; exact hB
    simp [Heap.load, hB, hB', hk]
theorem Bs.frame {H H' : Heap} {x : Value} {l : List Nat} (h : Bs H x l) (hb : H'.base = H.base) (hk : ∀ b, blkOf x = some b → H'.blk b = H.blk b) : Bs H' x l := by
  rcases h with h | ⟨b, off, c, rfl, h⟩
  · exact .inl h
  · exact .inr ⟨b, off, c, rfl, fun i hi => by rw [load_off hb (hk b rfl)]; exact h i hi⟩
theorem RS.frame {H H' : Heap} {p : Nat} {x : Value} {b l : List Nat} {fail : Nat} (h : RS H p x b l fail) (hb : H'.base = H.base) (hp : H'.blk p = H.blk p) (hk : ∀ b, blkOf x = some b → H'.blk b = H.blk b) : RS H' p x b l fail :=
  ⟨⟨by rw [B_eq hb]; exact h.rd.hp, by rw [hp]; exact h.rd.bp, h.rd.bs.frame hb hk, h.rd.px, h.rd.le, h.rd.lt, h.rd.small⟩, h.suf⟩
theorem _root_.Go.Ot.Wr.frame {H H' : Heap} {tp p ety n : Nat} {cells : List Value} {x : Value} (h : Wr H tp p ety n cells x) (hB : H'.B = H.B) (hp : H'.blk p = H.blk p) (hk : ∀ b, blkOf x = some b → H'.blk b = H.blk b) : Wr H' tp p ety n cells x :=
  ⟨by rw [hB]; exact h.hp, by rw [hp]; exact h.bp, h.own.keep hB hk, h.px⟩
theorem tu_lt : ∀ (k i a : Nat) (l : List Nat), i + (k + 1) = 10 → a < 2 ^ (7 * i) → (∀ c ∈ l, c < 256) → (tu (k + 1) i a l).1 < 18446744073709551616
  | k, i, a, [], _, _, _ => by simp [tu]
  | k, i, a, c :: l, hik, ha, hl => by
    obtain ⟨U, hU, U0, U8, U9⟩ := units i (by omega)
    have hc := hl c (by simp)
    simp only [tu]
    rw [← hU] at ha ⊢
    have hm : c % 128 < 128 := Nat.mod_lt _ (by decide)
    split
    · exact (by decide : (0 : Nat) < 18446744073709551616)
    · rename_i hbad
      split
      · by_cases h9 : i = 9
        · have := U9 h9
          have : c % 128 ≤ 1 := by omega
          have : c % 128 * U ≤ 1 * U := Nat.mul_le_mul_right _ this
          simp only
          omega
        · have := (U8 (by omega)).1
          have : c % 128 * U ≤ 127 * U := Nat.mul_le_mul_right _ (by omega)
          simp only
          omega
      · cases k with
        | zero => omega
        | succ k =>
          refine tu_lt k (i + 1) _ l (by omega) ?_ (fun c hc => hl c (by simp [hc]))
          rw [(U8 (by omega)).2]
          have : c % 128 * U ≤ 127 * U := Nat.mul_le_mul_right _ (by omega)
          omega
theorem uS_lt (l : List Nat) (fail : Nat) (hl : ∀ c ∈ l, c < 256) : (uS l fail).1 < 18446744073709551616 := by
  unfold uS; split
  · simp
  · exact tu_lt 9 0 0 l rfl (by decide) hl
theorem tu_enc : ∀ (k i a : Nat) (l : List Nat), i + (k + 1) = 10 → (∀ c ∈ l, c < 256) → (tu (k + 1) i a l).2.2 = 0 →
    ∃ q, (tu (k + 1) i a l).1 = a + q * 2 ^ (7 * i) ∧ l = encU q ++ (tu (k + 1) i a l).2.1 ∧ (0 < i → q ≠ 0)
  | k, i, a, [], _, _, h => by simp [tu] at h
  | k, i, a, c :: l, hik, hl, h => by
    have hc := hl c (by simp)
    simp only [tu] at h ⊢
    split at h
    · cases h
    · rename_i hbad
      rw [if_neg hbad]
      split at h
      · rename_i h128
        rw [if_pos h128]
        refine ⟨c, by simp [Nat.mod_eq_of_lt h128], by rw [encU_small h128]; rfl, fun h0 h1 => hbad (.inl ⟨h0, h1⟩)⟩
      · rename_i h128
        rw [if_neg h128]
        cases k with
        | zero => omega
        | succ k =>
          obtain ⟨q, h1, h2, h3⟩ := tu_enc k (i + 1) _ l (by omega) (fun c hc => hl c (by simp [hc])) h
          have hq := h3 (by omega)
          refine ⟨c % 128 + 128 * q, ?_, ?_, fun _ => by omega⟩
          · rw [h1, show 7 * (i + 1) = 7 * i + 7 by omega, Nat.pow_add, Nat.add_mul, Nat.add_assoc, Nat.mul_comm 128 q, Nat.mul_assoc q 128, Nat.mul_comm 128]
          · rw [encU_big (by omega), show (c % 128 + 128 * q) % 128 + 128 = c by omega, show (c % 128 + 128 * q) / 128 = q by omega, List.cons_append, ← h2]
theorem uS_enc (l : List Nat) (hl : ∀ c ∈ l, c < 256) (h : (uS l 0).2.2 = 0) : l = encU (uS l 0).1 ++ (uS l 0).2.1 := by
  have e : uS l 0 = tu 10 0 0 l := by simp [uS]
  rw [e] at h ⊢
  obtain ⟨q, h1, h2, _⟩ := tu_enc 9 0 0 l rfl hl h
  rw [h1]
  simpa using h2
theorem encU_pos (n : Nat) : 0 < (encU n).length := by rw [encU]; split <;> simp
/-- A reader beside a writer. -/
structure RW (H H1 : Heap) (p : Nat) (x : Value) (b l : List Nat) (fail q : Nat) (bs : List Nat) (y : Value) : Prop where
  rs : RS H1 p x b l fail
  wr : WR H1 q bs y
  pq : p ≠ q
  py : blkOf y ≠ some p
  xq : blkOf x ≠ some q
  xy : ∀ b, blkOf x = some b → blkOf y ≠ some b
  xl : ∀ b, blkOf x = some b → b < H1.next
  wf : H1.WF
  base : H1.base = H.base
  next : H.next ≤ H1.next
  hp : H.next ≤ p
  hq : H.next ≤ q
  hy : ∀ b, blkOf y = some b → H.next ≤ b
  old : ∀ b, b < H.next → H1.blk b = H.blk b
def Inv7 (H : Heap) (x0 : Value) (p q : Nat) (x : Value) (b : List Nat) (k : Nat) (t : Tm) (H1 : Heap) : Prop :=
  ∃ (l bs : List Nat) (y : Value), l.length = k ∧ t 0 = x0 ∧ t 3 = ptr p ∧ t 4 = ptr q ∧ RW H H1 p x b l 0 q bs y ∧ bs ++ l = b
theorem RW.take {H H1 : Heap} {p : Nat} {x : Value} {b l : List Nat} {fail q : Nat} {bs : List Nat} {y : Value} (h : RW H H1 p x b l fail q bs y) {l2 : List Nat} (fail2 : Nat) (hs : l2 <:+ l) :
    RW H (H1.put p (rsC x b l2 fail2)) p x b l2 fail2 q bs y :=
  { rs := h.rs.step fail2 hs, wr := h.wr.frame (by simp) (by simp [h.pq.symm]) (fun c hc => by
      have : c ≠ p := fun e => h.py (by rw [← e]; exact hc)
      simp [this]), pq := h.pq, py := h.py, xq := h.xq, xy := h.xy, xl := h.xl, wf := WF_put h.wf _ _, base := h.base, next := h.next, hp := h.hp, hq := h.hq, hy := h.hy,
    old := fun c hc => by
      have := h.hp
      have : c ≠ p := by omega
      simp [this, h.old c hc] }
theorem RW.write {H H1 H2 : Heap} {p : Nat} {x : Value} {b l : List Nat} {fail q : Nat} {bs bs2 : List Nat} {y y2 : Value} (h : RW H H1 p x b l fail q bs y) (a : AF H1 H2 q y bs2 y2) : RW H H2 p x b l fail q bs2 y2 :=
  { rs := h.rs.frame a.base (a.same p (h.wf.lt h.rs.rd.bp) h.pq h.py) (fun c hc => a.same c (h.xl c hc) (fun e => h.xq (by rw [← e]; exact hc)) (h.xy c hc)),
    wr := a.wr, pq := h.pq, py := fun e => by
      rcases a.old p e with h1 | h1
      · exact h.py h1
      · have := h.wf.lt h.rs.rd.bp; omega,
    xq := h.xq, xy := fun c hc e => by
      rcases a.old c e with h1 | h1
      · exact h.xy c hc h1
      · have := h.xl c hc; omega,
    xl := fun c hc => Nat.lt_of_lt_of_le (h.xl c hc) a.next, wf := a.wf, base := a.base.trans h.base, next := Nat.le_trans h.next a.next, hp := h.hp, hq := h.hq,
    hy := fun c hc => by
      rcases a.old c hc with h1 | h1
      · exact h.hy c h1
      · exact Nat.le_trans h.next h1,
    old := fun c hc => by
      have h1 := h.hq
      rw [a.same c (Nat.lt_of_lt_of_le hc h.next) (by omega) (fun e => by have := h.hy c e; omega)]
      exact h.old c hc }
theorem one_T {H : Heap} (hw : H.WF) {x0 : Value} {xs0 : List Int} (hx0 : IntsB H .u8 x0 xs0) (wx0 : ∀ n ∈ xs0, (Lit.int .u8 n).wf = true) : ∃ v H', T Try.prog 7 [x0] H v H' ∧ v = .bool true := by
  obtain ⟨b, b0, lt0, -⟩ := bs_of hx0 wx0
  refine T_by hm light7 ?_
  obtain ⟨xa, xc, hxl⟩ := b0.len
  by_cases h0 : 4096 < b.length
  · rw [hxl]
    simp [L7, h0]
  obtain ⟨c0, HA, hap, aA⟩ := copied hw b0 (by omega)
  obtain ⟨v1, HB, T1, p, x, rfl, hrd, hpn, wB, bB, sB, hxlt, hxge⟩ := read_T2 aA.wf (own_bs aA.own) lt0 (by omega)
  have T2 := new_T wB
  have W2 := new_WR wB
  have nB := T1.grow.next
  have R0 : RW H (HB.new 73 1 [.slice none 0 0]) p x b b 0 HB.next [] (.slice none 0 0) := by
    have hrs : RS HB p x b b 0 := ⟨by simpa using hrd, List.suffix_refl _⟩
    have hpl := wB.lt hrd.bp
    have := aA.next
    refine ⟨hrs.frame rfl ?_ ?_, W2, by omega, by simp, fun e => ?_, fun c _ => by simp, fun c hc => ?_, WF_new wB _ _ _, bB.trans aA.base, by simp; omega, by omega, by omega, by simp, fun c hc => ?_⟩
    · simp [show p ≠ HB.next by omega]
    · intro c hc
      have := hxlt c hc
      simp [show c ≠ HB.next by omega]
    · have := hxlt _ e; omega
    · have := hxlt c hc
      simp; omega
    · simp [show c ≠ HB.next by omega]
      rw [sB c (by omega) (by simp), aA.olds c hc]
  rw [hxl] at hap ⊢
  simp [L7, h0, hap]
  refine goT_of T1 ?_
  simp
  refine goT_of T2 ?_
  simp [fitsNil, isNil]
  refine loop_at (Inv7 H x0 p HB.next x b) b.length ?_ ?_
  · exact ⟨b, [], _, rfl, by simp [hxl], by simp, by simp, R0, rfl⟩
  · rintro k t H1 ⟨l, bs, y, hlk, t0, t3, t4, hR, hbl⟩
    have hbl2 := congrArg List.length hbl
    simp only [List.length_append] at hbl2
    have T3 := left_S hR.rs
    simp only [if_true] at T3
    have xb : Bs H1 x0 b := b0.keep hw hR.base (fun c hc => hR.old c hc)
    by_cases hl0 : l = []
    · subst hl0
      have hbs : bs = b := by simpa using hbl
      obtain ⟨v5, H5, T5, o5, n5, S5⟩ := bytes_T hR.wf hR.wr (by omega)
      have z1 := toStr_bs xb
      have z2 := toStr_bs (xb.keep hR.wf T5.1 (same_all S5))
      have z3 := toStr_bs (own_bs o5)
      have q := eql_str (a := b) (b := b) lt0 lt0
      simp only [decide_true] at q
      obtain ⟨v7, HG, T7, rfl, _⟩ := alive_T (T5.grow.wf hR.wf)
      rw [hbs] at z3
      rw [hxl] at z1 z2
      simp [L7_1, t3, t4]
      refine goT_of T3 ?_
      simp [t4]
      refine goT_of T5 ?_
      simp [t0, hxl, z1, z2, z3, q]
      refine goT_of T7 ?_
      simp
    · have hpos : 0 < l.length := List.length_pos_iff.2 hl0
      have T4 := ruint_T hR.rs
      have hR2 := hR.take (uS l 0).2.2 (uS_suf l 0)
      have T5 := fail_S hR2.rs
      simp [L7_1, t3, t4]
      refine goT_of T3 ?_
      simp [t3, t4, hpos]
      refine goT_of T4 ?_
      simp [t3, t4]
      refine goT_of T5 ?_
      by_cases hf : (uS l 0).2.2 = 0
      · obtain ⟨v6, H6, T6, y6, a6⟩ := uint_T hR2.wf hR2.wr (n := (uS l 0).1) (uS_lt l 0 hR.rs.lt) (by omega)
        have hR3 := hR2.write a6
        have hen := uS_enc l hR.rs.lt hf
        rw [hf] at hR3 T6
        simp [t4, hf]
        refine goT_of T6 ?_
        simp
        refine ⟨(uS l 0).2.1.length, ?_, (uS l 0).2.1, _, _, rfl, by simp [t0], by simp [t3], by simp [t4], hR3, ?_⟩
        · have h1 := congrArg List.length hen
          have h2 := encU_pos (uS l 0).1
          rw [List.length_append] at h1
          omega
        · rw [List.append_assoc, ← hen, hbl]
      · obtain ⟨v7, HG, T7, rfl, _⟩ := alive_T hR2.wf
        simp [hf]
        refine goT_of T7 ?_
        simp
end Go.Proofs.Ytpcgganldmmpoaa
