/-
  ArenaPlays answers true at every number and every slice of numbers.
-/
import Derived.Test.YtfddocdhjjnajaaSeatH
import Derived.Test.YtfddocdhjjnajaaSeatD
namespace Go.Proofs.Ytfddocdhjjnajaa
open Go.Ot
set_option linter.unusedSimpArgs false
set_option linter.unusedVariables false
theorem AR.keep {H H1 : Heap} {p fb ub : Nat} {fr : List Int} {us : List Bool} (h : AR H p fb ub fr us) (hw : H.WF) (hB : H1.B = H.B) (hk : ∀ b, b < H.next → H1.blk b = H.blk b) : AR H1 p fb ub fr us := by
  obtain ⟨rest, bf⟩ := h.bf
  exact ⟨by rw [hB]; exact h.hp, by rw [hB]; exact h.hf, by rw [hB]; exact h.hu, h.pf, h.pu, h.fu, by rw [hk _ (hw.lt h.bp)]; exact h.bp, by rw [hk _ (hw.lt h.bu)]; exact h.bu, ⟨rest, by rw [hk _ (hw.lt bf)]; exact bf⟩⟩
theorem same_all {H H1 : Heap} (h : Same H H1 []) : ∀ b, b < H.next → H1.blk b = H.blk b := fun b hb => h b hb (by simp)
def InvP (H : Heap) (p fb ub : Nat) (fr : List Int) (us : List Bool) (i : Nat) (t : Tm) (H1 : Heap) : Prop :=
  ∃ x, i ≤ fr.length ∧ t 0 = ptr p ∧ t 3 = x ∧ t 4 = .int .i64 ((i : Int) - 1) ∧ H1.B = H.B ∧ H.next ≤ H1.next ∧ H1.WF ∧ Own H1 3 1 (fr.length - i) ((fr.drop i).reverse.map (.int .i64)) x ∧ (∀ b, blkOf x = some b → H.next ≤ b) ∧ ∀ b, b < H.next → H1.blk b = H.blk b
theorem order_T {H : Heap} (hw : H.WF) {p fb ub : Nat} {fr : List Int} {us : List Bool} (h : AR H p fb ub fr us) (hl : fr.length < 1000) :
    ∃ v H', T Try.prog 16 [ptr p] H v H' ∧ Own H' 3 1 fr.length (fr.reverse.map (.int .i64)) v ∧ (∀ b, blkOf v = some b → H.next ≤ b) ∧ Same H H' [] := by
  refine T_by hm light16 ?_
  have e1 : IntKind.i64.wrap ((fr.length : Int) - 1) = (fr.length : Int) - 1 := w64 _ (by omega)
  simp [L16, Heap.load, h.hp, h.bp, e1]
  refine loop_at (InvP H p fb ub fr us) fr.length ?_ ?_
  · exact ⟨.slice none 0 0, Nat.le_refl _, by simp, by simp, by simp, rfl, Nat.le_refl _, hw, by simpa using Own.nil _ _ _, by simp, fun _ _ => rfl⟩
  · rintro i t H1 ⟨x, hi, t0, t3, t4, hB, hnx, hw1, hx, hxb, hold⟩
    have A1 := h.keep hw hB hold
    obtain ⟨a, hxa⟩ := hx.len
    cases i with
    | zero =>
      simp [L16_1, t0, t3, t4, hxa]
      have hxa' : x = .slice a fr.length 0 := by simpa using hxa
      rw [← hxa']
      exact ⟨by simpa using hx, hxb, fun b hb _ => hold b hb⟩
    | succ i =>
      have hif : i < fr.length := by omega
      have e2 : IntKind.i64.wrap ((i : Int) - 1) = (i : Int) - 1 := w64 _ (by omega)
      have e3 : ((i : Int) + 1 - 1) = i := by omega
      have e4 : (i : Int) < fr.length := by omega
      obtain ⟨rest, bf⟩ := A1.bf
      have lf : H1.load ⟨fb, i, none⟩ = some (.int .i64 fr[i]) := by rw [load_at A1.hf bf]; simp [List.getElem?_append_left, hif]
      have lp : H1.load ⟨p, 0, none⟩ = some (sl fb fr.length) := by rw [load_at A1.hp A1.bp]; rfl
      have hx2 : Own (H1.new 3 1 [.int .i64 fr[i]]) 3 1 (fr.length - (i + 1)) ((fr.drop (i + 1)).reverse.map (.int .i64)) x := hx.keep rfl (fun b hb => by
        have := hx.lt hw1 hb
        have : b ≠ H1.next := by omega
        simp [this])
      have nB := hw1.next_ge
      have hap := append_any (bytes := 8) hx2 (src_one (H := H1.new 3 1 [.int .i64 fr[i]]) (ety := 3) (v := .int .i64 fr[i]) (c := 0) (by simpa using nB) (by simp)) (by omega) (by omega)
      simp only [next_new] at hap
      simp [L16_1, t0, t3, t4, e3, e2, e4, lf, lp, zerosA, hap]
      refine ⟨i, Nat.lt_succ_self i, _, by omega, by simp [t0], by simp; rfl, by simp, by simpa using hB, by simp; omega, WF_new (WF_drop (WF_new hw1 _ _ _) _) _ _ _, ?_, ?_, ?_⟩
      · rw [show fr.length - (i + 1) + 1 = fr.length - i by omega]
        have e5 : (fr.drop i).reverse = (fr.drop (i + 1)).reverse ++ [fr[i]] := by rw [List.drop_eq_getElem_cons hif, List.reverse_cons]
        rw [e5, List.map_append]
        refine Own.mk ?_ (by simp; omega) (by simp)
        simp; omega
      · intro b hb; simp at hb; omega
      · intro b hb
        have m1 : b ≠ H1.next := by omega
        have m2 : b ≠ H1.next + 1 := by omega
        have m4 : ¬ blkOf x = some b := fun h => by have := hxb _ h; omega
        simp [m1, m2, m4, blk_drop, hold b hb]
structure OKB (n : Nat) (fr : List Int) (us : List Bool) : Prop extends OKA n fr us where
  all : ∀ j, j < n → us.getD j false = false → (j : Int) ∈ fr
theorem OKB.init (n : Nat) : OKB n (frI n 0) (List.replicate n false) :=
  { toOKA := OKA.init n, all := fun j hj _ => by
      simp only [frI, List.mem_map, List.mem_reverse, List.mem_range'_1]
      exact ⟨j, by omega, rfl⟩ }
theorem OKB.take {n : Nat} {fr : List Int} {s : Int} {us : List Bool} (h : OKB n (fr ++ [s]) us) : OKB n fr (us.set s.toNat true) :=
  { toOKA := h.toOKA.take, all := fun j hj hu => by
      have hl := h.len
      obtain ⟨s0, s1, s2⟩ := h.mem s (by simp)
      by_cases he : s.toNat = j
      · subst he
        simp [List.getD, List.getElem?_set, show s.toNat < us.length by omega] at hu
      · have := h.all j hj (by simpa [List.getD, List.getElem?_set, he] using hu)
        simp at this
        rcases this with h1 | h1
        · exact h1
        · omega }
theorem OKB.back {n : Nat} {fr : List Int} {i : Int} {us : List Bool} (h : OKB n fr us) (hi : usedB us i = true) : OKB n (fr ++ [i]) (us.set i.toNat false) :=
  { toOKA := h.toOKA.back hi, all := fun j hj hu => by
      simp only [usedB, Bool.and_eq_true, decide_eq_true_eq] at hi
      by_cases he : i.toNat = j
      · have : i = (j : Int) := by omega
        simp [this]
      · have := h.all j hj (by simpa [List.getD, List.getElem?_set, he] using hu)
        simp [this] }
theorem OKB.used {n : Nat} {fr : List Int} {us : List Bool} (h : OKB n fr us) (c : Int) : usedB us c = true ↔ ¬ (c < 0 ∨ (n : Int) ≤ c ∨ c ∈ fr.reverse) := by
  have hl := h.len
  constructor
  · intro hu
    simp only [usedB, Bool.and_eq_true, decide_eq_true_eq] at hu
    obtain ⟨⟨h0, h1⟩, h2⟩ := hu
    rintro (h3 | h3 | h3)
    · omega
    · omega
    · have := (h.mem c (by simpa using h3)).2.2
      rw [this] at h2; cases h2
  · intro hn
    simp only [not_or, List.mem_reverse] at hn
    have h0 : 0 ≤ c := by omega
    have h1 : c < us.length := by omega
    cases hb : us.getD c.toNat false with
    | true => simp only [usedB, hb, h0, h1, decide_true, Bool.and_self]
    | false =>
      have := h.all c.toNat (by omega) hb
      rw [Int.toNat_of_nonneg h0] at this
      exact absurd this hn.2.2
theorem map_get (l : List Int) (j : Nat) (h : j < l.length) : (l.map (Value.int .i64))[j]? = some (.int .i64 l[j]) := by rw [List.getElem?_map, List.getElem?_eq_getElem h]; rfl
def C5a : LCode := match L5_2 with | .seq a _ => a | _ => .skip
def C5b : LCode := match L5_2 with | .seq _ (.seq (.block _ (.seq b _)) _) => b | _ => .skip
def C5t : LCode := match L5_2 with | .seq _ (.seq (.block _ (.seq _ t)) _) => t | _ => .skip
def C5c : LCode := match L5_2 with | .seq _ (.seq _ c) => c | _ => .skip
theorem L5_2_eq : L5_2 = .seq C5a (.seq (.block 1 (.seq C5b C5t)) C5c) := rfl
/-- The document's arena beside the program's. -/
structure Both (H : Heap) (n p q fb ub rb : Nat) (fr : List Int) (us : List Bool) : Prop where
  wf : H.WF
  ar : AR H p fb ub fr us
  ok : OKB n fr us
  lr : LR H rb fr.reverse
  bq : H.blk q = some ⟨36, 2, [.int .i64 n, sl rb fr.length]⟩
  fr' : fb ≠ rb
theorem Both.keep {H H1 : Heap} {n p q fb ub rb : Nat} {fr : List Int} {us : List Bool} (h : Both H n p q fb ub rb fr us) (hw : H1.WF) (hB : H1.B = H.B) (hk : ∀ b, b < H.next → H1.blk b = H.blk b) : Both H1 n p q fb ub rb fr us :=
  ⟨hw, h.ar.keep h.wf hB hk, h.ok, ⟨by rw [hB]; exact h.lr.hB, by rw [hk _ (h.wf.lt h.lr.bk)]; exact h.lr.bk⟩, by rw [hk _ (h.wf.lt h.bq)]; exact h.bq, h.fr'⟩
def InvT (H2 : Heap) (t : Tm) (m : Nat) (k : Nat) (t' : Tm) (H3 : Heap) : Prop :=
  ∃ j : Nat, j + k = m ∧ (∀ i, i ≤ 16 → t' i = t i) ∧ t' 17 = .int .i64 j ∧ H3 = H2
theorem tail_T {H : Heap} {n p q fb ub rb : Nat} {fr : List Int} {us : List Bool} (h : Both H n p q fb ub rb fr us) (hn : n ≤ 512) {t : Tm} (t0 : t 0 = .int .i64 n) (t5 : t 5 = ptr p) (t7 : t 7 = ptr q) {Q : Post}
    (hQ : ∀ t' H', (∀ i, i ≤ 15 → t' i = t i) → H'.base = H.base → Both H' n p q fb ub rb fr us → Q .normal t' (rdy H')) : wpA Try.prog C5t Q t (rdy H) := by
  have hfl := h.ok.le
  have hul := h.ok.len
  obtain ⟨v, H2, T2, hx, hxb, S2⟩ := order_T h.wf h.ar (by omega)
  have w2 := T2.grow.wf h.wf
  have h2 := h.keep w2 T2.B (same_all S2)
  obtain ⟨a, hxa⟩ := hx.len
  have qB := w2.ge h2.bq
  have lq : H2.load ⟨q, 1, none⟩ = some (sl rb fr.length) := by rw [load_at qB h2.bq]; rfl
  have T3 := free_T h2.ar
  have T4 := live_T h2.ar (by omega) (by omega)
  have e1 : IntKind.i64.wrap ((n : Int) - fr.length) = (n : Int) - fr.length := w64 _ (by omega)
  have lr : ∀ off, H2.load ⟨rb, off, none⟩ = (fr.reverse.map (Value.int .i64))[off]? := fun off => load_at h2.lr.hB h2.lr.bk
  simp [C5t, L5_2, t0, t5, t7]
  refine goT_of T2 ?_
  rw [hxa]
  simp [t0, t5, t7, lq]
  refine goT_of T3 ?_
  simp [t0, t5, t7, lq]
  refine goT_of T4 ?_
  simp [t0, t5, t7, lq, hul, e1]
  refine loop_at (InvT H2 (put t (some 16) (.slice a fr.length 0)) fr.length) fr.length ?_ ?_
  · refine ⟨0, by omega, fun i hi => ?_, by simp, rfl⟩
    by_cases h16 : i = 16
    · subst h16; simp
    · have hlt : ∀ d, 17 ≤ d → i ≠ d := fun d hd => by omega
      simp [h16, hlt]
  · rintro k t1 H3 ⟨j, hjk, ht, t17, rfl⟩
    have u5 : t1 5 = ptr p := by rw [ht 5 (by omega)]; simp [t5]
    have u7 : t1 7 = ptr q := by rw [ht 7 (by omega)]; simp [t7]
    have u16 : t1 16 = .slice a fr.length 0 := by rw [ht 16 (by omega)]; simp
    cases k with
    | zero =>
      have e0 : j = fr.length := by omega
      subst e0
      simp [L5_1, u16, t17]
      refine hQ _ _ (fun i hi => ?_) T2.1 h2
      have hlt : ∀ d, 16 ≤ d → i ≠ d := fun d hd => by omega
      simp [hlt, ht i (by omega)]
    | succ k =>
      have hj : j < fr.length := by omega
      have hj' : (j : Int) < fr.length := by omega
      have e9 : IntKind.i64.wrap ((j : Int) + 1) = ((j + 1 : Nat) : Int) := by rw [w64 _ (by omega)]; omega
      rcases hx.2 with ⟨_, h0⟩ | ⟨ob, rest, hv, hb1, hb2⟩
      · omega
      · rw [hxa] at hv
        cases hv
        have hjr : j < fr.reverse.length := by simpa using hj
        have lo : H3.load ⟨ob, j, none⟩ = some (.int .i64 fr.reverse[j]) := by
          rw [load_at hb1 hb2, List.getElem?_append_left (by simpa using hj), map_get _ _ hjr]
        have lr' : H3.load ⟨rb, j, none⟩ = some (.int .i64 fr.reverse[j]) := by rw [lr, map_get _ _ hjr]
        have T5 := used_T h2.ar fr.reverse[j]
        have e5 : usedB us fr.reverse[j] = false := by
          have hm : fr.reverse[j] ∈ fr := by
            have := List.getElem_mem hjr
            simp at this ⊢
          have := (h.ok.mem _ hm).2.2
          simp only [usedB, this, Bool.and_false]
        rw [e5] at T5
        simp [L5_1, u5, u7, u16, t17, hj', lo, lr', lq, -List.getElem_reverse]
        refine goT_of T5 ?_
        simp [u16, t17, e9]
        refine ⟨k, Nat.lt_succ_self k, j + 1, by omega, fun i hi => ?_, by simp, rfl⟩
        have hlt : ∀ d, 17 ≤ d → i ≠ d := fun d hd => by omega
        simp [hlt, ht i hi]
theorem ne_of_blk {H : Heap} {a b : Nat} {k k' : Blk} (h : H.blk a = some k) (h' : H.blk b = some k') (hk : k.ty ≠ k'.ty) : a ≠ b := by
  rintro rfl
  rw [h] at h'
  cases h'
  exact hk rfl
theorem Both.stored {H : Heap} (hw : H.WF) {n p q fb ub rb : Nat} {fr : List Int} {us : List Bool} (ar : AR H p fb ub fr us) (ok : OKB n fr us) (lr : LR H rb fr.reverse) {c0 : List Value} (bq : H.blk q = some ⟨36, 2, c0⟩) (hfr : fb ≠ rb) (c1 : List Value) :
    Both ((H.put q c1).put q [.int .i64 n, sl rb fr.length]) n p q fb ub rb fr us := by
  obtain ⟨rest, bf⟩ := ar.bf
  have qp : q ≠ p := ne_of_blk bq ar.bp (by simp)
  have qf : q ≠ fb := ne_of_blk bq bf (by simp)
  have qu : q ≠ ub := ne_of_blk bq ar.bu (by simp)
  have qr : q ≠ rb := ne_of_blk bq lr.bk (by simp)
  exact ⟨WF_put (WF_put hw _ _) _ _, (ar.other _ qp qf qu).other _ qp qf qu, ok, ⟨by simpa using lr.hB, by simpa [qr.symm] using lr.bk⟩, by simp [bq], hfr⟩
theorem frI_rev (n : Nat) : (frI n 0).reverse = upTo n := by
  simp [frI, upTo, List.range_eq_range']
def InvY (H : Heap) (n p q : Nat) (x : Value) (xs : List Int) (k : Nat) (t : Tm) (H1 : Heap) : Prop :=
  ∃ (i fb ub rb : Nat) (fr : List Int) (us : List Bool), i + k = xs.length ∧ t 0 = .int .i64 n ∧ t 1 = x ∧ t 5 = ptr p ∧ t 7 = ptr q ∧ t 9 = .int .i64 i ∧ H1.base = H.base ∧ Both H1 n p q fb ub rb fr us
def InvZ (x : Value) (k : Nat) (t : Tm) (H1 : Heap) : Prop := t 1 = x ∧ t 5 = .pointer none ∧ t 9 = .int .i64 0 ∧ H1.WF
theorem plays_T {H : Heap} (hw : H.WF) {n : Int} (hn : -9223372036854775808 ≤ n ∧ n ≤ 9223372036854775807) {x : Value} {xs : List Int} (hx : IntsB H .i64 x xs) (hxw : ∀ n ∈ xs, (Lit.int .i64 n).wf = true) :
    ∃ v H', T Try.prog 5 [.int .i64 n, x] H v H' ∧ v = .bool true := by
  refine T_by hm light5 ?_
  obtain ⟨xa, xc, hxl⟩ := hx.len
  by_cases hlen : 300 < xs.length
  · have hlen' : (300 : Int) < xs.length := by omega
    subst hxl
    simp [L5, hlen']
  have hlen' : ¬ (300 : Int) < xs.length := by omega
  by_cases hb : n < 1 ∨ 512 < n
  · obtain ⟨v2, H2, T2, rfl, S2⟩ := newR_bad hw hb
    have w2 := T2.grow.wf hw
    subst hxl
    have hnB := w2.next_ge
    simp [L5, hlen']
    refine goT_of (new_bad hb) ?_
    simp
    refine goT_of T2 ?_
    simp [sStore_agg, Heap.storeN, add_own, Heap.store, hnB]
    refine loop_at (InvZ (.slice xa xs.length xc)) 0 ?_ ?_
    · exact ⟨by simp, by simp, by simp, WF_put (WF_put (WF_new w2 _ _ _) _ _) _ _⟩
    · rintro k t H3 ⟨t1, t5, t9, w3⟩
      obtain ⟨v, H6, T6, rfl, _⟩ := alive_T w3
      by_cases h0 : 0 < xs.length
      · simp [L5_2, t1, t5, t9, h0]
        refine goT_of T6 ?_
        simp
      · simp [L5_2, t1, t5, t9, h0]
        refine goT_of T6 ?_
        simp
  · have hn1 : 1 ≤ n ∧ n ≤ 512 := by omega
    obtain ⟨v1, H1, T1, p, fb, ub, rfl, A1, S1, hp, hf, hu⟩ := new_T hw hn1
    have w1 := T1.grow.wf hw
    obtain ⟨m, rfl⟩ : ∃ m : Nat, n = m := ⟨n.toNat, by omega⟩
    simp only [Int.toNat_natCast] at A1
    obtain ⟨v2, H2, T2, rb, rfl, L2, hrb, S2⟩ := newR_T w1 (n := m) (by omega)
    have w2 := T2.grow.wf w1
    have A2 := A1.keep w1 T2.B (same_all S2)
    have hnB := w2.next_ge
    obtain ⟨rest, bf1⟩ := A1.bf
    have fbn := w1.lt bf1
    rw [hxl]
    simp [L5, hlen']
    refine goT_of T1 ?_
    simp
    refine goT_of T2 ?_
    simp [sStore_agg, Heap.storeN, add_own, Heap.store, hnB]
    rw [← hxl]
    refine loop_at (InvY H m p H2.next x xs) xs.length ?_ ?_
    · refine ⟨0, fb, ub, rb, frI m 0, List.replicate m false, by omega, by simp, by simp, by simp, by simp, by simp, T2.1.trans T1.1, ?_⟩
      have hk := fun b (hb : b < H2.next) => (show (H2.new 36 2 [.int .i64 0, .slice none 0 0]).blk b = H2.blk b by simp [show b ≠ H2.next by omega])
      have w3 := WF_new w2 36 2 [.int .i64 0, .slice none 0 0]
      have rl := w2.lt L2.bk
      have := Both.stored w3 (n := m) (q := H2.next) (A2.keep w2 rfl hk) (OKB.init m) (rb := rb) ⟨L2.hB, by rw [frI_rev, hk _ rl]; exact L2.bk⟩ (c0 := [.int .i64 0, .slice none 0 0]) (by simp) (by omega) [.int .i64 m, .slice none 0 0]
      rw [frI_len, Nat.sub_zero] at this
      exact this
    · rintro k t H3 ⟨i, fb, ub, rb, fr, us, hik, t0, t1, t5, t7, t9, hbase, hB⟩
      cases k with
      | zero =>
        have e0 : i = xs.length := by omega
        subst e0
        rw [hxl] at t1
        obtain ⟨v, H6, T6, rfl, _⟩ := alive_T hB.wf
        simp [L5_2, t0, t1, t5, t9]
        refine goT_of T6 ?_
        simp
      | succ k =>
        have hi : i < xs.length := by omega
        obtain ⟨b, off, c, hxe, hbB, hld⟩ := (hx.keep hbase).at hi
        rw [hxe] at t1
        have hii : (i : Int) < xs.length := by omega
        have e9 : IntKind.i64.wrap ((i : Int) + 1) = ((i + 1 : Nat) : Int) := by rw [w64 _ (by omega)]; omega
        rw [L5_2_eq]
        have hfl := hB.ok.le
        have hul := hB.ok.len
        have w3 := hB.wf
        have hq := w3.ge hB.bq
        have hqn := w3.lt hB.bq
        have lq : ∀ off, H3.load ⟨H2.next, off, none⟩ = [Value.int .i64 m, sl rb fr.length][off]? := fun off => load_at hq hB.bq
        obtain ⟨rest3, bf3⟩ := hB.ar.bf
        have fn3 := w3.lt bf3
        have rn3 := w3.lt hB.lr.bk
        have qp : H2.next ≠ p := ne_of_blk hB.bq hB.ar.bp (by simp)
        have qf : H2.next ≠ fb := ne_of_blk hB.bq bf3 (by simp)
        have qu : H2.next ≠ ub := ne_of_blk hB.bq hB.ar.bu (by simp)
        have rp : rb ≠ p := ne_of_blk hB.lr.bk hB.ar.bp (by simp)
        have ru : rb ≠ ub := ne_of_blk hB.lr.bk hB.ar.bu (by simp)
        have hL := hB.lr
        by_cases hc : xs[i] < 0
        · rcases List.eq_nil_or_concat fr with rfl | ⟨fr', s, rfl⟩
          · obtain ⟨v5, H5, T5, rfl, S5⟩ := takeR_nil w3 (n := (m : Int)) (rb := rb)
            have w5 := T5.grow.wf w3
            have bq5 : H5.blk H2.next = _ := (S5 _ hqn (by simp)).trans hB.bq
            have q5 := w5.ge bq5
            simp [C5a, C5b, C5c, L5_2, t0, t1, t5, t7, t9, hii, hld, hc]
            refine goT_of (take_none hB.ar) ?_
            simp [t7, Heap.loadN, add_own, lq]
            refine goT_of T5 ?_
            simp [t7, sStore_agg, Heap.storeN, add_own, Heap.store, q5, bq5]
            refine tail_T (Both.stored w5 (hB.ar.keep w3 T5.B (same_all S5)) hB.ok ⟨by rw [T5.B]; exact hL.hB, by rw [S5 _ rn3 (by simp)]; exact hL.bk⟩ bq5 hB.fr' _) (by omega) (by simp [t0]) (by simp [t5]) (by simp [t7]) (fun t' H' ht hb' hB' => ?_)
            simp [ht 9 (by omega), t9, e9]
            refine ⟨k, Nat.lt_succ_self k, i + 1, fb, ub, rb, [], us, by omega, by simp [ht 0 (by omega), t0], by simp [ht 1 (by omega), t1, hxe], by simp [ht 5 (by omega), t5], by simp [ht 7 (by omega), t7], by simp, hb'.trans (T5.1.trans hbase), hB'⟩
          · rw [List.concat_eq_append] at hB hL hfl lq
            rw [List.reverse_append] at hL
            have hL' : LR H3 rb (s :: fr'.reverse) := hL
            obtain ⟨s0, s1, s2⟩ := hB.ok.mem s (by simp)
            have hfl' : fr'.length + 1 ≤ m := by simpa using hfl
            obtain ⟨v4, H4, T4, rfl, A4, S4⟩ := take_T hB.ar ⟨s0, by omega⟩ (by omega)
            have w4 := T4.grow.wf w3
            have n4 := T4.grow.next
            have bq4 : H4.blk H2.next = _ := (S4 _ hqn (by simp [qp, qu])).trans hB.bq
            have q4 := w4.ge bq4
            have lq4 : ∀ off, H4.load ⟨H2.next, off, none⟩ = [Value.int .i64 m, sl rb (fr' ++ [s]).length][off]? := fun off => load_at q4 bq4
            have L4 : LR H4 rb (s :: fr'.reverse) := ⟨by rw [T4.B]; exact hL'.hB, by rw [S4 _ rn3 (by simp [rp, ru])]; exact hL'.bk⟩
            obtain ⟨v5, H5, T5, rb', rfl, L5, hrb5, S5⟩ := takeR_cons w4 (n := (m : Int)) L4 (by simp; omega)
            simp only [List.length_reverse] at T5
            have w5 := T5.grow.wf w4
            have bq5 : H5.blk H2.next = _ := (S5 _ (by omega) (by simp)).trans bq4
            have q5 := w5.ge bq5
            simp [C5a, C5b, C5c, L5_2, t0, t1, t5, t7, t9, hii, hld, hc]
            refine goT_of T4 ?_
            simp [t7, Heap.loadN, add_own, lq4]
            refine goT_of T5 ?_
            simp [t7, sStore_agg, Heap.storeN, add_own, Heap.store, q5, bq5]
            refine tail_T (Both.stored w5 (A4.keep w4 T5.B (same_all S5)) hB.ok.take L5 bq5 (by omega) _) (by omega) (by simp [t0]) (by simp [t5]) (by simp [t7]) (fun t' H' ht hb' hB' => ?_)
            simp [ht 9 (by omega), t9, e9]
            refine ⟨k, Nat.lt_succ_self k, i + 1, fb, ub, rb', fr', _, by omega, by simp [ht 0 (by omega), t0], by simp [ht 1 (by omega), t1, hxe], by simp [ht 5 (by omega), t5], by simp [ht 7 (by omega), t7], by simp, hb'.trans (T5.1.trans (T4.1.trans hbase)), hB'⟩
        · by_cases hu : usedB us xs[i] = true
          · obtain ⟨v4, H4, T4, rfl, fb', hfb', A4, S4⟩ := back_T w3 hB.ar (by omega) hu
            have hcond := (hB.ok.used xs[i]).1 hu
            have w4 := T4.grow.wf w3
            have n4 := T4.grow.next
            have rf : rb ≠ fb := hB.fr'.symm
            have bq4 : H4.blk H2.next = _ := (S4 _ hqn (by simp [qp, qu, qf])).trans hB.bq
            have q4 := w4.ge bq4
            have lq4 : ∀ off, H4.load ⟨H2.next, off, none⟩ = [Value.int .i64 m, sl rb fr.length][off]? := fun off => load_at q4 bq4
            have L4 : LR H4 rb fr.reverse := ⟨by rw [T4.B]; exact hL.hB, by rw [S4 _ rn3 (by simp [rp, ru, rf])]; exact hL.bk⟩
            have hld4 : H4.load ⟨b, off + i, none⟩ = some (.int .i64 xs[i]) := by rw [load_ext T4.1 hbB]; exact hld
            obtain ⟨v5, H5, T5, h5⟩ := backR_T w4 (n := (m : Int)) (s := xs[i]) L4 (by simp; omega)
            rw [if_neg hcond] at h5
            obtain ⟨rb', rfl, L5, hrb5, S5⟩ := h5
            simp only [List.length_reverse] at T5
            have w5 := T5.grow.wf w4
            obtain ⟨rest4, bf4⟩ := A4.bf
            have fn4 := w4.lt bf4
            have bq5 : H5.blk H2.next = _ := (S5 _ (by omega) (by simp)).trans bq4
            have q5 := w5.ge bq5
            have L5' : LR H5 rb' (fr ++ [xs[i]]).reverse := by rw [List.reverse_append]; exact L5
            simp [C5a, C5b, C5c, L5_2, t0, t1, t5, t7, t9, hii, hld, hc]
            refine goT_of T4 ?_
            simp [t1, t7, t9, hii, hld4, Heap.loadN, add_own, lq4]
            refine goT_of T5 ?_
            simp [t7, sStore_agg, Heap.storeN, add_own, Heap.store, q5, bq5]
            have hS := Both.stored w5 (A4.keep w4 T5.B (same_all S5)) (hB.ok.back hu) L5' bq5 (by omega) [Value.int .i64 m, sl rb fr.length]
            simp only [List.length_append, List.length_cons, List.length_nil, Nat.zero_add] at hS
            refine tail_T hS (by omega) (by simp [t0]) (by simp [t5]) (by simp [t7]) (fun t' H' ht hb' hB' => ?_)
            simp [ht 9 (by omega), t9, e9]
            refine ⟨k, Nat.lt_succ_self k, i + 1, fb', ub, rb', _, _, by omega, by simp [ht 0 (by omega), t0], by simp [ht 1 (by omega), t1, hxe], by simp [ht 5 (by omega), t5], by simp [ht 7 (by omega), t7], by simp, hb'.trans (T5.1.trans (T4.1.trans hbase)), hB'⟩
          · have hu2 : usedB us xs[i] = false := by simpa using hu
            have hcond : xs[i] < 0 ∨ (m : Int) ≤ xs[i] ∨ xs[i] ∈ fr.reverse := Decidable.byContradiction fun h => hu ((hB.ok.used xs[i]).2 h)
            obtain ⟨v5, H5, T5, h5⟩ := backR_T w3 (n := (m : Int)) (s := xs[i]) hL (by simp; omega)
            rw [if_pos hcond] at h5
            obtain ⟨rfl, S5⟩ := h5
            simp only [List.length_reverse] at T5
            have w5 := T5.grow.wf w3
            have bq5 : H5.blk H2.next = _ := (S5 _ hqn (by simp)).trans hB.bq
            have q5 := w5.ge bq5
            simp [C5a, C5b, C5c, L5_2, t0, t1, t5, t7, t9, hii, hld, hc]
            refine goT_of (back_no hB.ar hu2) ?_
            simp [t1, t7, t9, hii, hld, Heap.loadN, add_own, lq]
            refine goT_of T5 ?_
            simp [t7, sStore_agg, Heap.storeN, add_own, Heap.store, q5, bq5]
            refine tail_T (Both.stored w5 (hB.ar.keep w3 T5.B (same_all S5)) hB.ok ⟨by rw [T5.B]; exact hL.hB, by rw [S5 _ rn3 (by simp)]; exact hL.bk⟩ bq5 hB.fr' _) (by omega) (by simp [t0]) (by simp [t5]) (by simp [t7]) (fun t' H' ht hb' hB' => ?_)
            simp [ht 9 (by omega), t9, e9]
            refine ⟨k, Nat.lt_succ_self k, i + 1, fb, ub, rb, fr, us, by omega, by simp [ht 0 (by omega), t0], by simp [ht 1 (by omega), t1, hxe], by simp [ht 5 (by omega), t5], by simp [ht 7 (by omega), t7], by simp, hb'.trans (T5.1.trans hbase), hB'⟩
end Go.Proofs.Ytfddocdhjjnajaa
