/-
  Chapter 25: texts as rows of bytes; the program's reader: a byte, digits, giving up.
-/
import Derived.Test.YtmdlfenileiaeaaOtZr
import Derived.Test.YtmdlfenileiaeaaOtZ
import Derived.Test.YtmdlfenileiaeaaSeatL
namespace Go.Proofs.Ytmdlfenileiaeaa
open Go.Ot Go.RowKit
set_option linter.unusedSimpArgs false
set_option linter.unusedVariables false
theorem hm : Try.prog.follows .mixedOrders = true := by kernel_rfl
abbrev ptr (p : Nat) : Value := .pointer (some ⟨p, 0, none⟩)
abbrev iv (n : Int) : Value := .int .i64 n
abbrev bv (n : Nat) : Value := .int .u8 (n : Int)
abbrev uv (n : Nat) : Value := .int .u64 (n : Int)
theorem w64 (n : Int) (h : -9223372036854775808 ≤ n ∧ n ≤ 9223372036854775807) : IntKind.i64.wrap n = n := IntWalk.i64_in n h
/-! ### what stands -/
structure On (H H1 : Heap) : Prop where
  wf : H1.WF
  base : H1.base = H.base
  next : H.next ≤ H1.next
  keep : ∀ b, b < H.next → H1.blk b = H.blk b
theorem On.refl {H : Heap} (hw : H.WF) : On H H := ⟨hw, rfl, Nat.le_refl _, fun _ _ => rfl⟩
theorem On.trans {H H1 H2 : Heap} (a : On H H1) (b : On H1 H2) : On H H2 := ⟨b.wf, b.base.trans a.base, Nat.le_trans a.next b.next, fun c hc => by rw [b.keep c (Nat.lt_of_lt_of_le hc a.next), a.keep c hc]⟩
theorem On.new {H H1 : Heap} (a : On H H1) (ty sz : Nat) (c : List Value) : On H (H1.new ty sz c) :=
  ⟨WF_new a.wf _ _ _, a.base, Nat.le_trans a.next (by simp), fun b hb => by have := a.next; simp [show b ≠ H1.next by omega, a.keep b hb]⟩
theorem On.put {H H1 : Heap} (a : On H H1) {p : Nat} (hp : H.next ≤ p) (c : List Value) : On H (H1.put p c) :=
  ⟨WF_put a.wf _ _, a.base, a.next, fun b hb => by simp [show b ≠ p by omega, a.keep b hb]⟩
/-- All stands but one block. -/
structure Fr (H H1 : Heap) (p : Nat) : Prop where
  wf : H1.WF
  base : H1.base = H.base
  next : H.next ≤ H1.next
  keep : ∀ b, b < H.next → b ≠ p → H1.blk b = H.blk b
theorem Fr.refl {H : Heap} (hw : H.WF) (p : Nat) : Fr H H p := ⟨hw, rfl, Nat.le_refl _, fun _ _ _ => rfl⟩
theorem Fr.trans {H H1 H2 : Heap} {p : Nat} (a : Fr H H1 p) (b : Fr H1 H2 p) : Fr H H2 p := ⟨b.wf, b.base.trans a.base, Nat.le_trans a.next b.next, fun c hc hp => by rw [b.keep c (Nat.lt_of_lt_of_le hc a.next) hp, a.keep c hc hp]⟩
theorem On.fr {H H1 : Heap} (a : On H H1) (p : Nat) : Fr H H1 p := ⟨a.wf, a.base, a.next, fun c hc _ => a.keep c hc⟩
theorem Fr.put {H H1 : Heap} {p : Nat} (a : Fr H H1 p) (c : List Value) : Fr H (H1.put p c) p := ⟨WF_put a.wf _ _, a.base, a.next, fun b hb hp => by simp [hp, a.keep b hb hp]⟩
theorem Fr.new {H H1 : Heap} {p : Nat} (a : Fr H H1 p) (ty sz : Nat) (c : List Value) : Fr H (H1.new ty sz c) p :=
  ⟨WF_new a.wf _ _ _, a.base, Nat.le_trans a.next (by simp), fun b hb hp => by have := a.next; simp [show b ≠ H1.next by omega, a.keep b hb hp]⟩
/-- A variable. -/
structure Vr (G : Heap) (q ty n : Nat) (cs : List Value) : Prop where
  hq : ¬ q < G.B
  bq : G.blk q = some ⟨ty, n, cs⟩
  hn : 0 < n
theorem Vr.mk' {G : Heap} (hw : G.WF) (ty n : Nat) (cs : List Value) (hn : 0 < n := by decide) : Vr (G.new ty n cs) G.next ty n cs := ⟨by simpa using hw.next_ge, by simp, hn⟩
theorem Vr.new {G : Heap} (hw : G.WF) {q ty n : Nat} {cs : List Value} (h : Vr G q ty n cs) (ty' sz : Nat) (c : List Value) : Vr (G.new ty' sz c) q ty n cs :=
  ⟨by simpa using h.hq, by have := hw.lt h.bq; simp [show q ≠ G.next by omega, h.bq], h.hn⟩
theorem Vr.beside {G : Heap} {q ty n : Nat} {cs : List Value} (h : Vr G q ty n cs) {r : Nat} (hr : q ≠ r) (c : List Value) : Vr (G.put r c) q ty n cs := ⟨by simpa using h.hq, by simp [hr, h.bq], h.hn⟩
theorem Vr.put {G : Heap} {q ty n : Nat} {cs : List Value} (h : Vr G q ty n cs) (c : List Value) : Vr (G.put q c) q ty n c := ⟨by simpa using h.hq, by simp [h.bq], h.hn⟩
theorem Vr.keep {G G' : Heap} {q ty n : Nat} {cs : List Value} (h : Vr G q ty n cs) (hb : G'.base = G.base) (hk : G'.blk q = G.blk q) : Vr G' q ty n cs := ⟨by rw [B_eq hb]; exact h.hq, by rw [hk]; exact h.bq, h.hn⟩
theorem Vr.on {G G' : Heap} (hw : G.WF) {q ty n : Nat} {cs : List Value} (h : Vr G q ty n cs) (o : On G G') : Vr G' q ty n cs := h.keep o.base (o.keep _ (hw.lt h.bq))
theorem Vr.fr {G G' : Heap} {p : Nat} (hw : G.WF) {q ty n : Nat} {cs : List Value} (h : Vr G q ty n cs) (hp : q ≠ p) (o : Fr G G' p) : Vr G' q ty n cs := h.keep o.base (o.keep _ (hw.lt h.bq) hp)
theorem Vr.load {G : Heap} {q ty n : Nat} {cs : List Value} (h : Vr G q ty n cs) (j : Nat) : G.load ⟨q, j, none⟩ = cs[j]? := load_at h.hq h.bq h.hn
theorem Vr.store {G : Heap} {q ty n : Nat} {cs : List Value} (h : Vr G q ty n cs) (j : Nat) (v : Value) (hj : j < cs.length) : G.store ⟨q, j, none⟩ v = some (G.put q (cs.set j v)) := by
  rw [store_own h.hq h.bq h.hn, if_pos (by simpa using hj)]
theorem Vr.loadA {G : Heap} {q ty n m : Nat} {cs : List Value} (h : Vr G q ty n cs) (hm : cs.length = m) : G.loadN ⟨q, 0, none⟩ 0 m = some cs := by
  rw [loadN_at h.hq h.bq (by simp; omega) h.hn]
  simp [← hm]
theorem Vr.storeA {G : Heap} {q ty n : Nat} {cs : List Value} (h : Vr G q ty n cs) {m : Nat} (hm : 0 < m) (row : List Value) (hr : row.length = m) (hc : cs.length = m) : sStore G m (ptr q) (.agg row.toArray) = some (G.put q row) := by
  rw [sStore_agg _ _ _ _ hr hm, storeN_at h.hq h.bq (by simp; omega) h.hn]
  simp [hr]
  rw [List.drop_of_length_le (by omega), List.append_nil]
theorem Vr.same {G : Heap} {q ty n : Nat} {cs : List Value} (h : Vr G q ty n cs) : G.put q cs = G := put_self h.bq
/-- A new row, and nothing else. -/
structure Row (H H1 : Heap) (ety sz n : Nat) (cells : List Value) (y : Value) : Prop where
  own : Own H1 ety sz n cells y
  on : On H H1
  new : ∀ b, blkOf y = some b → H.next ≤ b
theorem Row.nil {H : Heap} (hw : H.WF) (ety sz : Nat) : Row H H ety sz 0 [] (.slice none 0 0) := ⟨Own.nil _ _ _, On.refl hw, fun b hb => (by cases hb)⟩
theorem Own.on {H H1 : Heap} (hw : H.WF) {ety sz n : Nat} {cells : List Value} {y : Value} (h : Own H ety sz n cells y) (o : On H H1) : Own H1 ety sz n cells y := h.keep (B_eq o.base) (fun b hb => o.keep b (h.lt hw hb))
theorem Own.fr {H H1 : Heap} {p : Nat} (hw : H.WF) {ety sz n : Nat} {cells : List Value} {y : Value} (h : Own H ety sz n cells y) (hp : blkOf y ≠ some p) (o : Fr H H1 p) : Own H1 ety sz n cells y := h.keep (B_eq o.base) (fun b hb => o.keep b (h.lt hw hb) (fun e => hp (by rw [hb, e])))
/-! ### bytes of a text -/
def bts (s : ByteArray) : List Nat := s.data.toList.map UInt8.toNat
theorem bts_len (s : ByteArray) : (bts s).length = s.size := by simp [bts]
theorem bts_lt (s : ByteArray) : ∀ c ∈ bts s, c < 256 := by
  intro c hc
  obtain ⟨b, _, rfl⟩ := List.mem_map.1 hc
  exact b.toNat_lt
theorem idx_str (s : ByteArray) {i : Nat} (h : i < (bts s).length) : sIdxStr (.string s) (iv i) = some (bv (bts s)[i]) := by
  have h' : i < s.size := by rw [← bts_len]; exact h
  have : 0 ≤ (i : Int) ∧ (i : Int).toNat < s.size := ⟨by omega, by simpa using h'⟩
  simp only [sIdxStr, this, and_self, dif_pos]
  simp [bts]
  rfl
theorem bts_extract (s : ByteArray) (a b : Nat) : bts (s.extract a b) = ((bts s).drop a).take (b - a) := by
  simp [bts, ByteArray.data_extract, List.map_drop, List.map_take, List.extract_eq_take_drop]
theorem slice_str (s : ByteArray) {a b : Nat} (h : a ≤ b) (hb : b ≤ s.size) : sSliceStr (.string s) (some (iv a)) (some (iv b)) = some (.string (s.extract a b)) := by
  simp [sSliceStr, bnd, h, hb]
theorem len_str (s : ByteArray) : (s.size : Int) = ((bts s).length : Int) := by rw [bts_len]
/-! ### as far as something is so -/
def run (p : Nat → Bool) (S : List Nat) (a : Nat) : Nat := a + ((S.drop a).takeWhile p).length
theorem run_stop {p : Nat → Bool} {S : List Nat} {a : Nat} (h : S.length ≤ a) : run p S a = a := by
  unfold run; rw [List.drop_of_length_le h]; rfl
theorem run_no {p : Nat → Bool} {S : List Nat} {a : Nat} (ha : a < S.length) (h : p S[a] = false) : run p S a = a := by
  unfold run; rw [List.drop_eq_getElem_cons ha, List.takeWhile_cons, if_neg (by simp [h])]; rfl
theorem run_yes {p : Nat → Bool} {S : List Nat} {a : Nat} (ha : a < S.length) (h : p S[a] = true) : run p S a = run p S (a + 1) := by
  unfold run; rw [List.drop_eq_getElem_cons ha, List.takeWhile_cons, if_pos h, List.length_cons]; omega
theorem run_ge (p : Nat → Bool) (S : List Nat) (a : Nat) : a ≤ run p S a := Nat.le_add_right _ _
theorem run_le {p : Nat → Bool} {S : List Nat} {a : Nat} (h : a ≤ S.length) : run p S a ≤ S.length := by
  unfold run
  have := (List.takeWhile_sublist p (l := S.drop a)).length_le
  rw [List.length_drop] at this
  omega
def isB (c : Nat) : Bool := c == 32 || c == 10
def isD (c : Nat) : Bool := decide (48 ≤ c) && decide (c ≤ 57)
/-- The reader. -/
def rdr (s : ByteArray) (a o : Nat) : List Value := [.string s, iv a, iv o]
def InvNw (s : ByteArray) (H : Heap) (p a o : Nat) (k : Nat) (t : Tm) (H1 : Heap) : Prop :=
  ∃ i, i + k = (bts s).length ∧ t 0 = ptr p ∧ run isB (bts s) i = run isB (bts s) a ∧ H1 = H.put p (rdr s i o)
theorem now_T {H : Heap} {p a o : Nat} {s : ByteArray} (V : Vr H p 67 3 (rdr s a o)) (ha : a ≤ (bts s).length) (hl : (bts s).length ≤ 100000) : T Try.prog 39 [ptr p] H (bv ((bts s).getD (run isB (bts s) a) 0)) (H.put p (rdr s (run isB (bts s) a) o)) := by
  obtain ⟨c0, hc0⟩ : ∃ c0, c0 = (bts s).getD (run isB (bts s) a) 0 := ⟨_, rfl⟩
  rw [← hc0]
  refine T_eq hm light39 ?_
  simp [L39]
  refine loop_at (InvNw s H p a o) ((bts s).length - a) ?_ ?_
  · exact ⟨a, by omega, by simp, rfl, V.same.symm⟩
  · rintro k t H1 ⟨i, hik, t0, hrun, rfl⟩
    have V1 : Vr (H.put p (rdr s i o)) p 67 3 (rdr s i o) := V.put _
    have l0 : (H.put p (rdr s i o)).load ⟨p, 0, none⟩ = some (.string s) := V1.load 0
    have l1 : (H.put p (rdr s i o)).load ⟨p, 1, none⟩ = some (iv i) := V1.load 1
    obtain ⟨G, hG⟩ : ∃ G, G = H.put p (rdr s i o) := ⟨_, rfl⟩
    rw [← hG] at l0 l1 V1 ⊢
    have fin : run isB (bts s) i = i → G = H.put p (rdr s (run isB (bts s) a) o) := fun h => by rw [hG, ← hrun, h]
    by_cases hi : i < (bts s).length
    · have e1 : (i : Int) < (s.size : Int) := by rw [len_str]; omega
      have ix := idx_str s hi
      have ne : ((i : Int) == (s.size : Int)) = false := by rw [len_str]; simp; omega
      by_cases hb : isB (bts s)[i] = true
      · have e4 : IntKind.i64.wrap ((i : Int) + 1) = ((i + 1 : Nat) : Int) := by rw [w64 _ (by omega)]; omega
        obtain ⟨iN, hiN⟩ : ∃ n, n = i + 1 := ⟨_, rfl⟩
        have hst : G.store ⟨p, 1, none⟩ (iv iN) = some (H.put p (rdr s iN o)) := by
          rw [V1.store 1 _ (by simp [rdr]), hG, put_put]; rfl
        rw [← hiN] at e4
        have hr2 := run_yes hi hb
        have done : ∃ m, m < k ∧ InvNw s H p a o m t (H.put p (rdr s iN o)) := ⟨k - 1, by omega, iN, by omega, t0, by rw [hiN, ← hr2, hrun], rfl⟩
        obtain ⟨m, hm1, i', q1, q2, q3, q4⟩ := done
        simp only [isB, Bool.or_eq_true, beq_iff_eq] at hb
        obtain ⟨c, hc⟩ : ∃ c, c = (bts s)[i] := ⟨_, rfl⟩
        rw [← hc] at hb ix
        rcases hb with hb | hb
        · subst hb
          simp [L39_1, t0, l0, l1, e1, ix, e4, hst]
          exact ⟨m, hm1, i', q1, by simp [t0], q3, q4⟩
        · subst hb
          simp [L39_1, t0, l0, l1, e1, ix, e4, hst]
          exact ⟨m, hm1, i', q1, by simp [t0], q3, q4⟩
      · have hb' : isB (bts s)[i] = false := by simpa using hb
        have hr := run_no hi hb'
        have hc2 : (bts s).getD (run isB (bts s) a) 0 = (bts s)[i] := by rw [← hrun, hr]; simp [List.getD, hi]
        have fin' := fin hr
        rw [hc0, hc2]
        obtain ⟨c, hc⟩ : ∃ c, c = (bts s)[i] := ⟨_, rfl⟩
        rw [← hc] at hb' ix ⊢
        have n1 : ((c : Int) == 32) = false := by simp [isB] at hb' ⊢; omega
        have n2 : ((c : Int) == 10) = false := by simp [isB] at hb' ⊢; omega
        simp [L39_1, t0, l0, l1, e1, ix, n1, n2, ne]
        exact fin'
    · have ei : i = (bts s).length := by omega
      have hr : run isB (bts s) i = i := run_stop (by omega)
      have e1 : ¬ (i : Int) < (s.size : Int) := by rw [len_str]; omega
      have e2 : ((i : Int) == (s.size : Int)) = true := by rw [len_str, ei]; simp
      have hc2 : (bts s).getD (run isB (bts s) a) 0 = 0 := by rw [← hrun, hr, ei]; simp [List.getD]
      have fin' := fin hr
      rw [hc0, hc2]
      simp [L39_1, t0, l0, l1, e1, e2]
      exact fin'
def stopV (e : Int) (a : Nat) : Value := .iface 63 (.agg #[iv e, iv a])
theorem give_N {H : Heap} {p a o : Nat} {s : ByteArray} (V : Vr H p 67 3 (rdr s a o)) (e : Int) : TN Try.prog 24 [ptr p, iv e] H (fun r H' => r = .pan (stopV e a) ∧ H' = H) := by
  refine N_by hm light24 ?_
  have l1 : H.load ⟨p, 1, none⟩ = some (iv a) := V.load 1
  simp [L24, l1, sIface, plainAgg, plain0, plain1, stopV]
/-! ### digits -/
def valOf (ds : List Nat) : Nat := ds.foldl (fun n c => n * 10 + (c - 48)) 0
theorem valOf_snoc (ds : List Nat) (c : Nat) : valOf (ds ++ [c]) = valOf ds * 10 + (c - 48) := by simp [valOf]
theorem foldl_grow (ds : List Nat) : ∀ n, n ≤ ds.foldl (fun n c => n * 10 + (c - 48)) n := by
  induction ds with
  | nil => intro n; exact Nat.le_refl _
  | cons c ds ih => intro n; exact Nat.le_trans (by omega) (ih (n * 10 + (c - 48)))
theorem valOf_take_le (ds : List Nat) (i : Nat) : valOf (ds.take i) ≤ valOf ds := by
  have e : valOf ds = (ds.drop i).foldl (fun n c => n * 10 + (c - 48)) (valOf (ds.take i)) := by
    unfold valOf
    rw [← List.foldl_append, List.take_append_drop]
  rw [e]
  exact foldl_grow _ _
def sumV (ds : List Nat) : Value := if valOf ds < 18446744073709551616 then .tuple #[uv (valOf ds), .bool true] else .tuple #[.int .u64 0, .bool false]
def InvSu (s : ByteArray) (H : Heap) (k : Nat) (t : Tm) (H1 : Heap) : Prop :=
  ∃ i, i + k = (bts s).length ∧ t 0 = .string s ∧ t 4 = uv (valOf ((bts s).take i)) ∧ t 8 = iv (bts s).length ∧ t 9 = iv i ∧ valOf ((bts s).take i) < 18446744073709551616 ∧ H1 = H
theorem sum_T {H : Heap} (s : ByteArray) (hd : ∀ c ∈ bts s, isD c = true) (hl : (bts s).length ≤ 100000) : T Try.prog 70 [.string s] H (sumV (bts s)) H := by
  obtain ⟨V, hV⟩ : ∃ V, V = sumV (bts s) := ⟨_, rfl⟩
  rw [← hV]
  refine T_eq hm light70 ?_
  simp [L70]
  rw [len_str]
  refine loop_at (InvSu s H) (bts s).length ?_ ?_
  · exact ⟨0, by simp, by simp, by simp [valOf], by simp, by simp, by simp [valOf], rfl⟩
  · rintro k t H1 ⟨i, hik, t0, t4, t8, t9, hu, rfl⟩
    cases k with
    | zero =>
      have ei : i = (bts s).length := by omega
      have e1 : ¬ ((i : Int) < ((bts s).length : Int)) := by omega
      rw [ei, List.take_length] at t4 hu
      have : V = .tuple #[uv (valOf (bts s)), .bool true] := by rw [hV, sumV, if_pos hu]
      rw [this]
      simp [L70_1, t9, t8, e1, t4]
    | succ k =>
      have hil : i < (bts s).length := by omega
      have e1 : ((i : Int) < ((bts s).length : Int)) := by omega
      have e4 : IntKind.i64.wrap ((i : Int) + 1) = ((i + 1 : Nat) : Int) := by rw [w64 _ (by omega)]; omega
      obtain ⟨iN, hiN⟩ : ∃ n, n = i + 1 := ⟨_, rfl⟩
      rw [← hiN] at e4
      have ix := idx_str s hil
      have hc := hd (bts s)[i] (List.getElem_mem _)
      have hsn : (bts s).take iN = (bts s).take i ++ [(bts s)[i]] := by rw [hiN, List.take_add_one]; simp [hil]
      have hval : valOf ((bts s).take iN) = valOf ((bts s).take i) * 10 + ((bts s)[i] - 48) := by rw [hsn, valOf_snoc]
      obtain ⟨c, hcc⟩ : ∃ c, c = (bts s)[i] := ⟨_, rfl⟩
      rw [← hcc] at ix hc hval
      simp only [isD, Bool.and_eq_true, decide_eq_true_eq] at hc
      obtain ⟨d, hdd⟩ : ∃ d : Nat, d = c - 48 := ⟨_, rfl⟩
      rw [← hdd] at hval
      have w1 : IntKind.u8.wrap ((c : Int) - 48) = (d : Int) := by rw [wu8 _ (by omega)]; omega
      have w2 : IntKind.u64.wrap (d : Int) = (d : Int) := wu64 _ (by omega)
      obtain ⟨q, hq⟩ : ∃ q : Nat, q = 18446744073709551615 - d := ⟨_, rfl⟩
      have w3 : IntKind.u64.wrap (18446744073709551615 - (d : Int)) = (q : Int) := by rw [wu64 _ (by omega)]; omega
      have w4 : sBin .quo (uv q) (.int .u64 10) = some (uv (q / 10)) := quo_u64 q 10 (by decide) (by omega)
      obtain ⟨u, huu⟩ : ∃ u, u = valOf ((bts s).take i) := ⟨_, rfl⟩
      rw [← huu] at t4 hu hval
      obtain ⟨r, hr⟩ : ∃ r, r = q / 10 := ⟨_, rfl⟩
      rw [← hr] at w4
      by_cases hov : r < u
      · have hbig : ¬ valOf (bts s) < 18446744073709551616 := by
          have := valOf_take_le (bts s) iN
          omega
        have : V = .tuple #[.int .u64 0, .bool false] := by rw [hV, sumV, if_neg hbig]
        rw [this]
        have hov' : (r : Int) < (u : Int) := by omega
        simp [L70_1, t9, t8, t0, t4, e1, ix, w1, w2, w3, w4, hov]
      · have hov' : ¬ (r : Int) < (u : Int) := by omega
        obtain ⟨u1, hu1⟩ : ∃ u1 : Nat, u1 = u * 10 := ⟨_, rfl⟩
        obtain ⟨u2, hu2⟩ : ∃ u2 : Nat, u2 = u1 + d := ⟨_, rfl⟩
        have w5 : IntKind.u64.wrap ((u : Int) * 10) = (u1 : Int) := by rw [wu64 _ (by omega)]; omega
        have w6 : IntKind.u64.wrap ((u1 : Int) + (d : Int)) = (u2 : Int) := by rw [wu64 _ (by omega)]; omega
        have e2 : valOf ((bts s).take iN) = u2 := by omega
        simp [L70_1, t9, t8, t0, t4, e1, ix, w1, w2, w3, w4, hov, w5, w6, e4]
        exact ⟨k, by omega, iN, by omega, by simp [t0], by simp [e2], by simp [t8], by simp, by omega, rfl⟩
/-- What the program says of a row of digits alone. -/
def numE (ds : List Nat) : Int := if ds = [] ∨ (ds.head? = some 48 ∧ 1 < ds.length) then 10 else if valOf ds < 9223372036854775808 then 0 else 11
def numN (ds : List Nat) : Int := if numE ds = 0 then valOf ds else 0
def InvPd (s : ByteArray) (H : Heap) (k : Nat) (t : Tm) (H1 : Heap) : Prop :=
  ∃ i, i + k = (bts s).length ∧ t 4 = .string s ∧ t 5 = .bool false ∧ t 35 = iv (bts s).length ∧ t 36 = iv i ∧ H1 = H
theorem str_emp (s : ByteArray) : (s.toList == ByteArray.empty.toList) = decide (bts s = []) := by
  rw [ByteArray.toList_eq, ByteArray.toList_eq]
  unfold bts
  cases s.data.toList <;> simp
theorem eql_emp (s : ByteArray) : sBin .eql (.string s) (.string ByteArray.empty) = some (.bool (decide (bts s = []))) := by
  rw [← str_emp]; rfl
theorem neq_emp (s : ByteArray) : sBin .neq (.string s) (.string ByteArray.empty) = some (.bool (!decide (bts s = []))) := by
  rw [← str_emp]; rfl
theorem parse_T {H : Heap} (s : ByteArray) (hd : ∀ c ∈ bts s, isD c = true) (hl : (bts s).length ≤ 100000) : T Try.prog 59 [.string s] H (.tuple #[iv (numN (bts s)), iv (numE (bts s))]) H := by
  obtain ⟨E, hE⟩ : ∃ E, E = numE (bts s) := ⟨_, rfl⟩
  obtain ⟨N, hN⟩ : ∃ N, N = numN (bts s) := ⟨_, rfl⟩
  rw [← hE, ← hN]
  unfold numN at hN
  rw [← hE] at hN
  refine T_eq hm light59 ?_
  have q1 := eql_emp s
  have q2 := neq_emp s
  by_cases h0 : bts s = []
  · have e1 : E = 10 := by rw [hE, numE, if_pos (.inl h0)]
    have e2 : N = 0 := by rw [hN, e1]; rfl
    rw [e1, e2]
    simp [L59, q1, q2, h0]
  · have hpos : 0 < (bts s).length := List.length_pos_iff.2 h0
    have ix := idx_str s hpos
    have hc := hd (bts s)[0] (List.getElem_mem _)
    have hhead : (bts s).head? = some (bts s)[0] := by rw [List.head?_eq_getElem?]; simp [hpos]
    have hE2 : E = if (bts s)[0] = 48 ∧ 1 < (bts s).length then 10 else if valOf (bts s) < 9223372036854775808 then 0 else 11 := by
      rw [hE, numE]
      simp only [h0, false_or, hhead, Option.some.injEq]
    obtain ⟨c, hcc⟩ : ∃ c, c = (bts s)[0] := ⟨_, rfl⟩
    rw [← hcc] at ix hc hE2
    simp only [isD, Bool.and_eq_true, decide_eq_true_eq] at hc
    have n1 : ((c : Int) == 45) = false := by simp; omega
    have ix0 : sIdxStr (.string s) (iv 0) = some (bv c) := ix
    by_cases hz : c = 48 ∧ 1 < (bts s).length
    · have e1 : E = 10 := by rw [hE2, if_pos hz]
      have e2 : N = 0 := by rw [hN, e1]; rfl
      have hc1 : (1 : Int) < (s.size : Int) := by rw [len_str]; omega
      rw [e1, e2]
      obtain ⟨hz1, _⟩ := hz
      subst hz1
      simp [L59, q1, q2, h0, ix0, hc1]
    · rw [if_neg hz] at hE2
      have sumC := sum_T (H := H) s hd hl
      have loop : ∀ (t : Tm) (Q : Exit → Tm → Heap → Prop), t 4 = .string s → t 5 = .bool false → t 35 = iv (bts s).length → t 36 = iv 0 → (∀ tt, tt 4 = .string s → tt 5 = .bool false → Q (.exit 0) tt (rdy H)) → wpA Try.prog (.loop L59_1) Q t (rdy H) := by
        intro t Q t4 t5 t35 t36 hQ
        refine loop_at (InvPd s H) (bts s).length ⟨0, by simp, t4, t5, t35, t36, rfl⟩ ?_
        rintro k tt H1 ⟨i, hik, u4, u5, u35, u36, rfl⟩
        cases k with
        | zero =>
          have e1 : ¬ ((i : Int) < ((bts s).length : Int)) := by omega
          simp [L59_1, u36, u35, e1]
          exact hQ _ (by simp [u4]) (by simp [u5])
        | succ k =>
          have hil : i < (bts s).length := by omega
          have e1 : ((i : Int) < ((bts s).length : Int)) := by omega
          have e4 : IntKind.i64.wrap ((i : Int) + 1) = ((i + 1 : Nat) : Int) := by rw [w64 _ (by omega)]; omega
          obtain ⟨iN, hiN⟩ : ∃ n, n = i + 1 := ⟨_, rfl⟩
          rw [← hiN] at e4
          have ix := idx_str s hil
          have hc := hd (bts s)[i] (List.getElem_mem _)
          obtain ⟨c, hcc⟩ : ∃ c, c = (bts s)[i] := ⟨_, rfl⟩
          rw [← hcc] at ix hc
          simp only [isD, Bool.and_eq_true, decide_eq_true_eq] at hc
          have n2 : ¬ ((c : Int) < 48) := by omega
          have n3 : ¬ ((57 : Int) < c) := by omega
          have n2' : ¬ c < 48 := by omega
          have n3' : ¬ 57 < c := by omega
          simp [L59_1, u36, u35, u4, e1, ix, n2, n3, n2', n3', e4]
          exact ⟨k, by omega, iN, by omega, by simp [u4], by simp [u5], by simp [u35], by simp, rfl⟩
      have hsz : (s.size : Int) = (bts s).length := len_str s
      unfold sumV at sumC
      obtain ⟨V, hV⟩ : ∃ V, V = valOf (bts s) := ⟨_, rfl⟩
      rw [← hV] at sumC hE2
      have hN2 : N = if V < 9223372036854775808 then (V : Int) else 0 := by
        rw [hN]
        by_cases h : V < 9223372036854775808
        · rw [if_pos h] at hE2; rw [hE2, if_pos rfl, if_pos h, hV]
        · rw [if_neg h] at hE2; rw [hE2, if_neg (by decide), if_neg h]
      have c48 : ((c : Int) == 48) = false ∨ (c = 48 ∧ ¬ (1 : Int) < (s.size : Int)) := by
        by_cases h : c = 48
        · right; refine ⟨h, ?_⟩
          rw [hsz]
          have : ¬ 1 < (bts s).length := fun h1 => hz ⟨h, h1⟩
          omega
        · left; simp; omega
      by_cases hbig : V < 18446744073709551616
      · rw [if_pos hbig] at sumC
        by_cases h63 : V < 9223372036854775808
        · have g1 : ¬ ((9223372036854775808 : Int) < V) := by omega
          have g2 : ¬ ((9223372036854775807 : Int) < V) := by omega
          have w1 : IntKind.i64.wrap (V : Int) = V := w64 _ (by omega)
          rw [hE2, hN2, if_pos h63, if_pos h63]
          rcases c48 with h | ⟨h, h1⟩
          · simp [L59, q1, q2, h0, ix0, n1, h, hsz]
            refine loop _ _ (by simp) (by simp) (by simp) (by simp) ?_
            intro tt u4 u5
            simp [u4]
            refine goT_of sumC ?_
            simp [u5, g1, g2, w1]
          · subst h
            simp [L59, q1, q2, h0, ix0, n1, h1]
            rw [hsz]
            refine loop _ _ (by simp) (by simp) (by simp) (by simp) ?_
            intro tt u4 u5
            simp [u4]
            refine goT_of sumC ?_
            simp [u5, g1, g2, w1]
        · have g2 : ((9223372036854775807 : Int) < V) := by omega
          rw [hE2, hN2, if_neg h63, if_neg h63]
          rcases c48 with h | ⟨h, h1⟩
          · simp [L59, q1, q2, h0, ix0, n1, h, hsz]
            refine loop _ _ (by simp) (by simp) (by simp) (by simp) ?_
            intro tt u4 u5
            simp [u4]
            refine goT_of sumC ?_
            simp [u5, g2]
          · subst h
            simp [L59, q1, q2, h0, ix0, n1, h1]
            rw [hsz]
            refine loop _ _ (by simp) (by simp) (by simp) (by simp) ?_
            intro tt u4 u5
            simp [u4]
            refine goT_of sumC ?_
            simp [u5, g2]
      · rw [if_neg hbig] at sumC
        have h63 : ¬ V < 9223372036854775808 := by omega
        rw [hE2, hN2, if_neg h63, if_neg h63]
        rcases c48 with h | ⟨h, h1⟩
        · simp [L59, q1, q2, h0, ix0, n1, h, hsz]
          refine loop _ _ (by simp) (by simp) (by simp) (by simp) ?_
          intro tt u4 u5
          simp [u4]
          refine goT_of sumC ?_
          simp [u5]
        · subst h
          simp [L59, q1, q2, h0, ix0, n1, h1]
          rw [hsz]
          refine loop _ _ (by simp) (by simp) (by simp) (by simp) ?_
          intro tt u4 u5
          simp [u4]
          refine goT_of sumC ?_
          simp [u5]
end Go.Proofs.Ytmdlfenileiaeaa
