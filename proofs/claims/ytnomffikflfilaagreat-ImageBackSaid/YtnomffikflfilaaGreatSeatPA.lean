/-
  Chapter 26: texts and flags laid down; seals (carried over from chapter 2).
-/
import Derived.Test.YtnomffikflfilaaGreatSeatEA
import Derived.ChangeKeysEq
import Derived.Laws.StructEq
namespace Go.Proofs.YtnomffikflfilaaGreat.E8
open I8
open Go.Ot
set_option linter.unusedSimpArgs false
set_option linter.unusedVariables false
set_option maxRecDepth 100000
def sb (s : ByteArray) : List Nat := s.data.toList.map fun b => b.toNat
theorem sb_len (s : ByteArray) : (sb s).length = s.size := by unfold sb; rw [List.length_map, Array.length_toList]; rfl
theorem bytesV_sb (s : ByteArray) : bytesV s = bc (sb s) := by simp [bytesV, bc, sb]
theorem WR.pour {H : Heap} (hw : H.WF) {p : Nat} {bs l : List Nat} {x y : Value} (h : WR H p bs x) (hs : srcCells H 1 y = some (l.length, bc l)) (hl : bs.length + l.length ≤ 140737488355328) :
    ∃ a HA, sAppend H 5 1 1 x y = some (.slice a (bs.length + l.length) 0, HA) ∧ (∀ w, HA.store ⟨p, 0, none⟩ w = some (HA.put p [w])) ∧
      AF H (HA.put p [.slice a (bs.length + l.length) 0]) p x (bs ++ l) (.slice a (bs.length + l.length) 0) := by
  obtain ⟨x', HA, h1, ⟨a, rfl⟩, h2, h3⟩ := Wr.pour hw h hs (bc_len l) (bytes := 1) (by omega)
  refine ⟨a, HA, h1, h2, ?_⟩
  unfold AF
  rw [List.length_append, bc_append]
  exact h3
theorem text_T {H : Heap} (hw : H.WF) {p : Nat} {bs : List Nat} {x : Value} (h : WR H p bs x) (s : ByteArray) (hl : bs.length ≤ 100000000000000) (hs : s.size ≤ 10000000000000) :
    ∃ v H', T Tryz.prog 75 [ptr p, .string s] H v H' ∧ ∃ x', AF H H' p x (bs ++ encU s.size ++ sb s) x' := by
  have hle : (encU s.size).length ≤ 10 := encU_len 9 _ (by omega)
  obtain ⟨v, H1, T1, x1, a1⟩ := uint_T hw h (n := s.size) (by omega) hl
  refine T_by hm light75 ?_
  have e1 : IntKind.u64.wrap (s.size : Int) = (s.size : Int) := wu64 _ (by omega)
  obtain ⟨w, hw0⟩ : ∃ w, w = bs ++ encU s.size := ⟨_, rfl⟩
  rw [← hw0] at a1 ⊢
  have hwl : w.length ≤ 100000000000010 := by rw [hw0, List.length_append]; omega
  obtain ⟨a, HA, hap, hst, a2⟩ := WR.pour a1.wf a1.wr (y := .string s) (l := sb s) (by rw [srcCells_string, bytesV_sb, sb_len]) (by rw [sb_len]; omega)
  have hld := a1.wr.load
  simp [L75, e1]
  refine goT_of T1 ?_
  simp [hld, hap, hst]
  exact ⟨_, a1.trans a2⟩
theorem flag_T {H : Heap} (hw : H.WF) {p : Nat} {bs : List Nat} {x : Value} (h : WR H p bs x) (b : Bool) (hl : bs.length ≤ 100000000000000) :
    ∃ v H', T Tryz.prog 76 [ptr p, .bool b] H v H' ∧ ∃ x', AF H H' p x (bs ++ [if b then 1 else 0]) x' := by
  refine T_by hm light76 ?_
  have hld := h.load
  cases b with
  | true =>
    obtain ⟨HA, hap, hst, a2⟩ := WR.push hw h 1 (by omega)
    have hap' : sAppend (H.new 5 1 [.int .u8 1]) 5 1 1 x (.slice (some ⟨H.next, 0, none⟩) 1 0) = _ := hap
    simp [L76, hld, zerosA, hap', hst]
    exact ⟨_, a2⟩
  | false =>
    obtain ⟨HA, hap, hst, a2⟩ := WR.push hw h 0 (by omega)
    have hap' : sAppend (H.new 5 1 [.int .u8 0]) 5 1 1 x (.slice (some ⟨H.next, 0, none⟩) 1 0) = _ := hap
    simp [L76, hld, zerosA, hap', hst]
    exact ⟨_, a2⟩
end Go.Proofs.YtnomffikflfilaaGreat.E8
namespace Go.Proofs.YtnomffikflfilaaGreat.E8
open I8
open Go.Ot
set_option linter.unusedSimpArgs false
set_option linter.unusedVariables false
set_option maxRecDepth 100000
def fnv1 (h c : Nat) : Nat := (h ^^^ c) * 1099511628211 % 18446744073709551616
def fnv (l : List Nat) : Nat := l.foldl fnv1 14695981039346656037
theorem fnv1_lt (h c : Nat) : fnv1 h c < 18446744073709551616 := Nat.mod_lt _ (by decide)
theorem fnv_lt (l : List Nat) : fnv l < 18446744073709551616 := by
  unfold fnv
  have key : ∀ (l : List Nat) (a : Nat), a < 18446744073709551616 → l.foldl fnv1 a < 18446744073709551616 := by
    intro l
    induction l with
    | nil => intro a h; exact h
    | cons c l ih => intro a h; exact ih _ (fnv1_lt a c)
  exact key l _ (by decide)
theorem fnv_step (h c : Nat) (hh : h < 18446744073709551616) (hc : c < 256) :
    sBin .xor (.int .u64 (h : Int)) (.int .u64 (c : Int)) = some (.int .u64 ((h ^^^ c : Nat) : Int)) ∧ IntKind.u64.wrap (((h ^^^ c : Nat) : Int) * 1099511628211) = ((fnv1 h c : Nat) : Int) := by
  refine ⟨?_, ?_⟩
  · rw [sBin_xor, xor_u64 h c hh (by omega)]
  · rw [show ((h ^^^ c : Nat) : Int) * 1099511628211 = (((h ^^^ c) * 1099511628211 : Nat) : Int) from (Int.natCast_mul (h ^^^ c) 1099511628211).symm, wu64_mod]; rfl
def InvS (H : Heap) (x : Value) (l : List Nat) (k : Nat) (t : Tm) (H1 : Heap) : Prop :=
  ∃ i a, i + k = l.length ∧ t 3 = .int .u64 ((a : Nat) : Int) ∧ a < 18446744073709551616 ∧ (l.drop i).foldl fnv1 a = fnv l ∧ t 6 = x ∧ t 7 = .int .i64 l.length ∧ t 8 = .int .i64 (i : Nat) ∧ H1 = H
theorem sum_T {H : Heap} {x : Value} {l : List Nat} (h : Bs H x l) (hb : ∀ b ∈ l, b < 256) (hl : l.length ≤ 140737488355328) : T Tryz.prog 79 [x] H (.int .u64 ((fnv l : Nat) : Int)) H := by
  refine T_eq hm light79 ?_
  obtain ⟨xa, xc, hxl⟩ := h.len
  rw [hxl]
  simp [L79]
  rw [← hxl]
  refine loop_at (InvS H x l) l.length ?_ ?_
  · exact ⟨0, 14695981039346656037, by omega, by simp, by decide, by simp [fnv], by simp, by simp, by simp, rfl⟩
  · rintro k t H1 ⟨i, a, hik, t3, ha, hf, t6, t7, t8, rfl⟩
    cases k with
    | zero =>
      have e0 : i = l.length := by omega
      subst e0
      simp at hf
      simp [L79_1, t3, t6, t7, t8, hf]
    | succ k =>
      have hi : i < l.length := by omega
      have hi' : (i : Int) < l.length := by omega
      obtain ⟨b, off, c, hx, hld⟩ := h.at hi
      rw [hx] at t6
      have hlt := hb _ (List.getElem_mem hi)
      obtain ⟨s1, s2⟩ := fnv_step a l[i] ha hlt
      have e1 : IntKind.u64.wrap ((l[i] : Nat) : Int) = ((l[i] : Nat) : Int) := wu64 _ (by omega)
      have e2 : IntKind.i64.wrap ((i : Int) + 1) = ((i + 1 : Nat) : Int) := by rw [w64 _ (by omega)]; omega
      simp [L79_1, t3, t6, t7, t8, hi', hld, e1, s1, s2, e2]
      refine ⟨k, Nat.lt_succ_self k, i + 1, fnv1 a l[i], by omega, by simp, fnv1_lt _ _, ?_, by simp [t6, hx], by simp [t7], by simp, rfl⟩
      rw [← hf, List.drop_eq_getElem_cons hi]
      rfl
def low (n : Nat) : Nat → List Nat
  | 0 => []
  | k + 1 => n % 256 :: low (n / 256) k
theorem low_len (k : Nat) : ∀ n, (low n k).length = k := by
  induction k with
  | zero => intro n; rfl
  | succ k ih => intro n; simp [low, ih]
def InvL (H : Heap) (x : Value) (all : List Nat) (kk : Nat) (k : Nat) (t : Tm) (H1 : Heap) : Prop :=
  ∃ (w : List Nat) (m i : Nat) (x' : Value), i + k = kk ∧ t 0 = x' ∧ t 1 = .int .u64 (m : Int) ∧ t 7 = .int .i64 kk ∧ t 8 = .int .i64 (i : Nat) ∧ w ++ low m k = all ∧ w.length ≤ all.length ∧ OG H H1 x w x'
theorem put_T {H : Heap} (hw : H.WF) {l : List Nat} {x : Value} (h : Own H 5 1 l.length (bc l) x) (n k : Nat) (hl : l.length + k < 140737488355328) :
    ∃ v H', T Tryz.prog 78 [x, .int .u64 (n : Int), .int .i64 (k : Int)] H v H' ∧ OG H H' x (l ++ low n k) v := by
  refine T_by hm light78 ?_
  have hall : (l ++ low n k).length < 140737488355328 := by rw [List.length_append, low_len]; exact hl
  simp [L78]
  refine loop_at (InvL H x (l ++ low n k) k) k ?_ ?_
  · exact ⟨l, n, 0, x, by omega, by simp, by simp, by simp, by simp, rfl, by simp, Og.refl hw h⟩
  · rintro j t H1 ⟨w, m, i, x', hik, t0, t1, t7, t8, hall2, hwl, ha⟩
    cases j with
    | zero =>
      have e0 : i = k := by omega
      subst e0
      simp [low] at hall2
      rw [← hall2]
      simp [L78_1, t0, t1, t7, t8]
      obtain ⟨a, ha'⟩ := ha.own.len
      rw [ha'] at ha ⊢
      simp
      exact ha
    | succ j =>
      obtain ⟨HA, hap, ha2⟩ := OG.push ha.wf ha.own (m % 256) (by omega)
      obtain ⟨c, hc⟩ : ∃ c, c = m % 256 := ⟨_, rfl⟩
      obtain ⟨q, hq⟩ : ∃ q, q = m / 256 := ⟨_, rfl⟩
      rw [← hc] at hap ha2
      have e1 : (i : Int) < k := by omega
      have e2 : IntKind.u8.wrap (m : Int) = (c : Int) := by rw [wu8_mod, hc]
      have e3 : sBin .shr (.int .u64 (m : Int)) (.int .u64 8) = some (.int .u64 (q : Int)) := by
        rw [hq]; exact shr_nat .u64 .u64 m 8 (by decide)
      have e4 : IntKind.i64.wrap ((i : Int) + 1) = ((i + 1 : Nat) : Int) := by rw [w64 _ (by omega)]; omega
      simp [L78_1, t0, t1, t7, t8, e1, e2, e3, e4, zerosA, hap]
      simp only [low, ← hc, ← hq] at hall2
      refine ⟨j, Nat.lt_succ_self j, w ++ [c], q, i + 1, _, by omega, by simp, by simp, by simp [t7], by simp, by simpa using hall2, ?_, ha.trans ha2⟩
      rw [← hall2]; simp
end Go.Proofs.YtnomffikflfilaaGreat.E8
namespace Go.Proofs.YtnomffikflfilaaGreat.E8
open I8
open Go.Ot
set_option linter.unusedSimpArgs false
set_option linter.unusedVariables false
set_option maxRecDepth 100000
def mk4 : List Nat := [111, 117, 116, 114]
theorem mark_T {H : Heap} (hw : H.WF) : ∃ v H', T Tryz.prog 77 [] H v H' ∧ v = .agg (bc mk4).toArray ∧ Same H H' [] := by
  refine T_by hm light77 ?_
  have hnB := hw.next_ge
  simp [L77, sStore_agg, Heap.storeN, Heap.loadN, add_own, Heap.store, Heap.load, hnB, bc, mk4]
  intro b hb _
  have m1 : b ≠ H.next := by omega
  simp [m1]
def sealB (body : List Nat) : List Nat := mk4 ++ low body.length 4 ++ low (fnv body) 8 ++ body
theorem seal_big {H : Heap} {x : Value} {l : List Nat} (h : Bs H x l) (hl : 1048576 < l.length) : T Tryz.prog 37 [x] H (.tuple #[.slice none 0 0, .int .i64 23]) H := by
  refine T_eq hm light37 ?_
  obtain ⟨xa, xc, rfl⟩ := h.len
  have e : (1048576 : Int) < l.length := by omega
  simp [L37, e]
theorem seal_T {H : Heap} (hw : H.WF) {x : Value} {l : List Nat} (h : Bs H x l) (hb : ∀ b ∈ l, b < 256) (hl : l.length ≤ 1048576) :
    ∃ v H', T Tryz.prog 37 [x] H v H' ∧ ∃ y, v = .tuple #[y, .int .i64 0] ∧ OG H H' (.slice none 0 0) (sealB l) y := by
  refine T_by hm light37 ?_
  obtain ⟨xa, xc, hxl⟩ := h.len
  have e : ¬ (1048576 : Int) < l.length := by omega
  have e1 : IntKind.u64.wrap (l.length : Int) = (l.length : Int) := wu64 _ (by omega)
  obtain ⟨v1, H1, T1, rfl, S1⟩ := mark_T hw
  have w1 := T1.grow.wf hw
  have hnB := w1.next_ge
  have n1 := T1.grow.next
  obtain ⟨HM, hHM⟩ : ∃ HM, HM = H1.new 157 4 [.int .u8 111, .int .u8 117, .int .u8 116, .int .u8 114] := ⟨_, rfl⟩
  have wM : HM.WF := by rw [hHM]; exact WF_new w1 _ _ _
  have nM : HM.next = H1.next + 1 := by rw [hHM]; rfl
  have bM : HM.base = H.base := by rw [hHM]; exact T1.1
  have src : srcCells HM 1 (.slice (some ⟨H1.next, 0, none⟩) 4 1) = some (4, bc mk4) := by
    rw [srcCells_slice, loadN_at (k := ⟨157, 4, bc mk4⟩) (by rw [hHM]; exact hnB) (by rw [hHM]; simp [bc, mk4]) (by simp [bc, mk4])]
    simp [bc, mk4]
  have hap := append_nil (ety := 5) (bytes := 1) src (by omega) (by omega)
  have a2 : OG H (HM.new 5 1 (bc mk4)) (.slice none 0 0) mk4 (sl HM.next 4) := by
    refine ⟨bM, by simp; omega, WF_new wM _ _ _, Own.mk (by simp [bc, mk4]) (by simpa using wM.next_ge) (by simp), ?_, ?_⟩
    · intro b hb _
      have m1 : b ≠ H1.next := by omega
      have m2 : b ≠ HM.next := by omega
      simp only [blk_new, m2, if_false]
      rw [hHM]
      simp [m1, S1 b hb (by simp)]
    · intro b hb; simp at hb; omega
  obtain ⟨HN, hHN⟩ : ∃ HN, HN = HM.new 5 1 (bc mk4) := ⟨_, rfl⟩
  rw [← hHN] at hap a2
  have h2 := h.keep hw a2.base a2.olds
  obtain ⟨v3, H3, T3, a3⟩ := put_T a2.wf a2.own l.length 4 (by simp [mk4])
  have a3' := a2.trans a3
  have h3 := h.keep hw a3'.base (OG.olds a3')
  have T4 := sum_T h3 hb (by omega)
  obtain ⟨v5, H5, T5, a5⟩ := put_T a3'.wf a3'.own (fnv l) 8 (by simp [mk4, low_len])
  have a5' := Og.trans a3' a5
  have h5 := h.keep hw a5'.base (OG.olds a5')
  obtain ⟨a, H6, hap6, a6⟩ := OG.pour a5'.wf a5'.own h5.src (by simp [mk4, low_len]; omega)
  have a6' := Og.trans a5' a6
  rw [nM] at hap T3
  rw [hHM] at hap
  rw [hxl] at T4 hap6
  rw [hxl]
  simp [L37, e, e1]
  refine goT_of T1 ?_
  simp [sStore_agg, Heap.storeN, Heap.loadN, add_own, Heap.store, Heap.load, hnB, bc, mk4, sSliceArr, bnd, Addr.add, put_put, new_put, hap, e1]
  refine goT_of T3 ?_
  simp
  refine goT_of T4 ?_
  simp
  refine goT_of T5 ?_
  simp [hap6]
  have e9 : mk4.length + ((low l.length 4).length + (low (fnv l) 8).length) + l.length = (mk4 ++ low l.length 4 ++ low (fnv l) 8).length + l.length := by simp
  rw [e9]
  exact a6'
end Go.Proofs.YtnomffikflfilaaGreat.E8
namespace Go.Proofs.YtnomffikflfilaaGreat.E8
open I8
open Go.Ot
set_option linter.unusedSimpArgs false
set_option linter.unusedVariables false
set_option maxRecDepth 100000
def leN : List Nat → Nat
  | [] => 0
  | b :: l => b + 256 * leN l
theorem leN_lt : ∀ (l : List Nat), (∀ b ∈ l, b < 256) → leN l < 256 ^ l.length
  | [], _ => by simp [leN]
  | b :: l, h => by
    have h1 := leN_lt l (fun c hc => h c (by simp [hc]))
    have h2 := h b (by simp)
    simp only [leN, List.length_cons, Nat.pow_succ]
    omega
theorem or_low (a b : Nat) (hb : b < 256) : (a * 256) ||| b = b + 256 * a := by
  have h := Nat.shiftLeft_add_eq_or_of_lt (i := 8) (b := b) (by simpa using hb) a
  rw [Nat.shiftLeft_eq] at h
  rw [show (2 : Nat) ^ 8 = 256 from rfl] at h
  omega
def InvG (H : Heap) (x : Value) (l : List Nat) (k : Nat) (t : Tm) (H1 : Heap) : Prop :=
  k ≤ l.length ∧ t 0 = x ∧ t 3 = .int .u64 ((leN (l.drop k) : Nat) : Int) ∧ t 4 = .int .i64 ((k : Int) - 1) ∧ H1 = H
theorem got_T {H : Heap} {x : Value} {l : List Nat} (h : Bs H x l) (hb : ∀ b ∈ l, b < 256) (hl : l.length ≤ 8) : T Tryz.prog 92 [x] H (.int .u64 ((leN l : Nat) : Int)) H := by
  refine T_eq hm light92 ?_
  obtain ⟨xa, xc, hxl⟩ := h.len
  have e0 : IntKind.i64.wrap ((l.length : Int) - 1) = (l.length : Int) - 1 := w64 _ (by omega)
  rw [hxl]
  simp [L92, e0]
  rw [← hxl]
  refine loop_at (InvG H x l) l.length ?_ ?_
  · exact ⟨Nat.le_refl _, by simp, by simp [leN], by simp, rfl⟩
  · rintro k t H1 ⟨hk, t0, t3, t4, rfl⟩
    cases k with
    | zero =>
      simp at t3
      simp [L92_1, t3, t4]
    | succ k =>
      have hi : k < l.length := by omega
      have hi' : (k : Int) < l.length := by omega
      obtain ⟨b, off, c, hx, hld⟩ := h.at hi
      have hlt := hb _ (List.getElem_mem hi)
      obtain ⟨a, ha⟩ : ∃ a, a = leN (l.drop (k + 1)) := ⟨_, rfl⟩
      have hal : a < 256 ^ 7 := by
        rw [ha]
        refine Nat.lt_of_lt_of_le (leN_lt _ (fun b hb' => hb b (List.mem_of_mem_drop hb'))) ?_
        refine Nat.pow_le_pow_right (by decide) ?_
        simp; omega
      rw [← ha] at t3
      obtain ⟨s, hs⟩ : ∃ s, s = a * 256 := ⟨_, rfl⟩
      have e1 : sBin .shl (.int .u64 (a : Int)) (.int .u64 8) = some (.int .u64 (s : Int)) := by
        have := shl_u64 .u64 a 8 (by decide)
        rw [show a * 2 ^ 8 % 18446744073709551616 = s by omega] at this
        exact this
      have e2 : IntKind.u64.wrap ((l[k] : Nat) : Int) = ((l[k] : Nat) : Int) := wu64 _ (by omega)
      have e3 : sBin .or (.int .u64 (s : Int)) (.int .u64 ((l[k] : Nat) : Int)) = some (.int .u64 ((leN (l.drop k) : Nat) : Int)) := by
        rw [sBin_or, or_u64 s l[k] (by omega) (by omega), hs, or_low a l[k] hlt, List.drop_eq_getElem_cons hi, leN, ← ha]
      have e4 : IntKind.i64.wrap ((k : Int) - 1) = (k : Int) - 1 := w64 _ (by omega)
      have e5 : ((k : Int) + 1 - 1) = k := by omega
      rw [hx] at t0
      simp [L92_1, t0, t3, t4, e5, hi', hld, e1, e2, e3, e4]
      exact ⟨k, Nat.lt_succ_self k, by omega, by simp [t0, hx], by simp, by simp, rfl⟩
theorem sub_bs {H : Heap} {b off n c : Nat} {l : List Nat} (h : ∀ i (h : i < l.length), H.load ⟨b, off + i, none⟩ = some (.int .u8 ((l[i] : Nat) : Int))) (lo hi : Nat) (h1 : lo ≤ hi) (h2 : hi ≤ l.length) (c' : Nat) :
    Bs H (.slice (some ⟨b, off + lo, none⟩) (hi - lo) c') ((l.take hi).drop lo) := by
  have hlen : ((l.take hi).drop lo).length = hi - lo := by simp; omega
  refine .inr ⟨b, off + lo, c', by rw [hlen], fun i hi' => ?_⟩
  rw [hlen] at hi'
  rw [show off + lo + i = off + (lo + i) by omega, h (lo + i) (by omega)]
  simp
theorem Bs.part {H : Heap} {x : Value} {l : List Nat} (h : Bs H x l) (lo hi : Nat) (h1 : lo ≤ hi) (h2 : hi ≤ l.length) (h0 : 0 < l.length) :
    (∃ a c, sSlice 1 x (some (.int .i64 (lo : Int))) (some (.int .i64 (hi : Int))) none = some (.slice (some a) (hi - lo) c) ∧ Bs H (.slice (some a) (hi - lo) c) ((l.take hi).drop lo)) ∧
    (∃ a c, sSlice 1 x none (some (.int .i64 (hi : Int))) none = some (.slice (some a) hi c) ∧ Bs H (.slice (some a) hi c) (l.take hi)) ∧
    (∃ a c, sSlice 1 x (some (.int .i64 (lo : Int))) none none = some (.slice (some a) (l.length - lo) c) ∧ Bs H (.slice (some a) (l.length - lo) c) (l.drop lo)) := by
  rcases h with ⟨rfl, rfl⟩ | ⟨b, off, c, rfl, h⟩
  · simp at h0
  · have hlo : lo ≤ l.length := by omega
    refine ⟨⟨⟨b, off + lo, none⟩, (if lo = 0 then (if c = 1 then (if hi = l.length then 1 else 2) else c) else 2), ?_, sub_bs (n := 0) (c := 0) h lo hi h1 h2 _⟩,
      ⟨⟨b, off, none⟩, (if c = 1 then (if hi = l.length then 1 else 2) else c), ?_, ?_⟩, ⟨⟨b, off + lo, none⟩, (if lo = 0 then c else 2), ?_, ?_⟩⟩
    · simp [sSlice, bnd, h1, h2, add_own]
    · simp [sSlice, bnd, h2, add_own]
    · simpa using sub_bs (n := 0) (c := 0) h 0 hi (by omega) h2 (if c = 1 then (if hi = l.length then 1 else 2) else c)
    · simp [sSlice, bnd, hlo, add_own]
      by_cases hz : lo = 0
      · by_cases hc : c = 1 <;> simp [hz, hc]
      · simp [hz]
    · simpa using sub_bs (n := 0) (c := 0) h lo l.length (by omega) (Nat.le_refl _) (if lo = 0 then c else 2)
def openB (b : List Nat) : Nat × List Nat :=
  if b.length < 16 then (20, [])
  else if b.take 4 ≠ mk4 ∨ leN ((b.take 8).drop 4) ≠ b.length - 16 ∨ 1048576 < b.length - 16 then (21, [])
  else if leN ((b.take 16).drop 8) ≠ fnv (b.drop 16) then (22, [])
  else (0, b.drop 16)
theorem step8 (w : World) {xs ys : Array Value} {i a b : Nat} {is : List Nat} (hx : xs[i]? = some (.int .u8 (a : Int))) (hy : ys[i]? = some (.int .u8 (b : Int))) :
    (Op.eqItems 9999 5 1 xs ys (i :: is)).run Tryz.prog w = if a = b then (Op.eqItems 9999 5 1 xs ys is).run Tryz.prog w else .ok false w := by
  have hu5 : Tryz.prog.underlying 5 = some (.int .u8) := by kernel_rfl
  have he : Tryz.prog.plainKey 5 = true := by kernel_rfl
  simp only [Op.eqItems, Sem.run_bind, Nat.mul_one, run_part_plain w he hx, run_part_plain w he hy, Result.andThen_ok, run_equalIn_int w 9998 5 .u8 .u8 _ _ hu5]
  by_cases h : a = b
  · subst h; simp
  · have : ¬ (a : Int) = (b : Int) := by omega
    simp [h, this]
theorem eq4 (l : List Nat) (hl : l.length = 4) (w : World) : (Op.equal 157 (.agg (bc l).toArray) (.agg (bc mk4).toArray)).run Tryz.prog w = .ok (decide (l = mk4)) w := by
  match l, hl with
  | [a, b, c, d], _ =>
    have hu : Tryz.prog.underlying 157 = some (.array 4 5) := by kernel_rfl
    have hc : Tryz.prog.cellsOf 5 = 1 := by kernel_rfl
    obtain ⟨i5, hi5⟩ : ∃ i, Tryz.prog.info? 5 = some i := ⟨_, rfl⟩
    have hd : Op.equal 157 (.agg (bc [a, b, c, d]).toArray) (.agg (bc mk4).toArray) = Op.equalIn (9999 + 1) 157 (.agg (bc [a, b, c, d]).toArray) (.agg (bc mk4).toArray) := rfl
    rw [hd, run_equalIn_array w 9999 _ _ hu hi5, hc]
    show (Op.eqItems 9999 5 1 (bc [a, b, c, d]).toArray (bc mk4).toArray [0, 1, 2, 3]).run Tryz.prog w = _
    rw [step8 (a := a) (b := 111) w rfl rfl, step8 (a := b) (b := 117) w rfl rfl, step8 (a := c) (b := 116) w rfl rfl, step8 (a := d) (b := 114) w rfl rfl]
    have he : (Op.eqItems 9999 5 1 (bc [a, b, c, d]).toArray (bc mk4).toArray []).run Tryz.prog w = .ok true w := rfl
    rw [he]
    simp only [mk4, List.cons.injEq, and_true]
    by_cases h1 : a = 111 <;> by_cases h2 : b = 117 <;> by_cases h3 : c = 116 <;> by_cases h4 : d = 114 <;> simp [h1, h2, h3, h4]
end Go.Proofs.YtnomffikflfilaaGreat.E8
namespace Go.Proofs.YtnomffikflfilaaGreat.E8
open I8
open Go.Ot
set_option linter.unusedSimpArgs false
set_option linter.unusedVariables false
set_option maxRecDepth 100000
theorem Bs.loadN {H : Heap} {a : Addr} {n c : Nat} {l : List Nat} (h : Bs H (.slice (some a) n c) l) : H.loadN a 0 l.length = some (bc l) := by
  rcases h with ⟨h, _⟩ | ⟨b, off, c', h1, h2⟩
  · cases h
  · cases h1
    exact loadN_all (fun j hj => by simpa using h2 j hj)
theorem OG.grown {H H1 : Heap} (hb : H1.base = H.base) (hn : H.next ≤ H1.next) (hw : H1.WF) (hk : ∀ b, b < H.next → H1.blk b = H.blk b) : OG H H1 (.slice none 0 0) [] (.slice none 0 0) :=
  ⟨hb, hn, hw, nil_own H1, fun b hlt _ => hk b hlt, by simp⟩
theorem open_T {H : Heap} (hw : H.WF) {x : Value} {l : List Nat} (h : Bs H x l) (hb : ∀ b ∈ l, b < 256) (hl : l.length ≤ 140737488355328) :
    ∃ v H', T Tryz.prog 48 [x] H v H' ∧ ∃ y, v = .tuple #[y, .int .i64 ((openB l).1 : Int)] ∧ OG H H' (.slice none 0 0) (openB l).2 y := by
  refine T_by hm light48 ?_
  obtain ⟨xa, xc, hxl⟩ := h.len
  by_cases h16 : l.length < 16
  · have e : (l.length : Int) < 16 := by omega
    have ho : openB l = (20, []) := by simp [openB, h16]
    rw [ho, hxl]
    simp [L48, e]
    exact OG.same0 hw
  have e : ¬ (l.length : Int) < 16 := by omega
  obtain ⟨v1, H1, T1, rfl, S1⟩ := mark_T hw
  have w1 := T1.grow.wf hw
  have k1 := same_all S1
  obtain ⟨-, ⟨a4, c4, s4, b4⟩, -⟩ := h.part 4 4 (by omega) (by omega) (by omega)
  have b4' := b4.keep hw T1.1 k1
  have l4 : (l.take 4).length = 4 := by simp; omega
  have ld4 := b4.loadN
  have ld4' := b4'.loadN
  rw [l4] at ld4 ld4'
  have hs4 : sArr 4 (.slice (some a4) 4 c4) = some (.pointer (some a4)) := by simp [sArr]
  have hpl : ∀ m : List Nat, (bc m).toArray.toList.all plain1 = true := by
    intro m; simp [bc, plain1, plain0]
  have s4' : sSlice 1 x none (some (.int .i64 4)) none = some (.slice (some a4) 4 c4) := s4
  rw [hxl] at s4'
  by_cases h4 : l.take 4 = mk4
  · have h1 := h.keep hw T1.1 k1
    obtain ⟨⟨a8, c8, s8, b8⟩, -, -⟩ := h1.part 4 8 (by omega) (by omega) (by omega)
    obtain ⟨⟨a9, c9, s9, b9⟩, -, -⟩ := h1.part 8 16 (by omega) (by omega) (by omega)
    obtain ⟨-, -, ⟨a7, c7, s7, b7⟩⟩ := h1.part 16 16 (by omega) (by omega) (by omega)
    have T2 := got_T b8 (fun b hb' => hb b (List.mem_of_mem_take (List.mem_of_mem_drop hb'))) (by simp; omega)
    obtain ⟨q1, hq1⟩ : ∃ q1, q1 = leN ((l.take 8).drop 4) := ⟨_, rfl⟩
    rw [← hq1] at T2
    have s8' : sSlice 1 x (some (.int .i64 4)) (some (.int .i64 8)) none = some (.slice (some a8) 4 c8) := s8
    have s9' : sSlice 1 x (some (.int .i64 8)) (some (.int .i64 16)) none = some (.slice (some a9) 8 c9) := s9
    have s7' : sSlice 1 x (some (.int .i64 16)) none none = some (.slice (some a7) (l.length - 16) c7) := s7
    rw [hxl] at s8' s9' s7'
    have e20 : IntKind.i64.wrap ((l.length : Int) - 16) = ((l.length - 16 : Nat) : Int) := by rw [w64 _ (by omega)]; omega
    obtain ⟨m, hm'⟩ : ∃ m, m = l.length - 16 := ⟨_, rfl⟩
    rw [← hm'] at e20 s7' b7
    have e21 : IntKind.u64.wrap (m : Int) = (m : Int) := wu64 _ (by omega)
    by_cases hq : q1 = m
    · have hqi : (q1 : Int) = (m : Int) := by omega
      by_cases hbig : 1048576 < m
      · have hbig' : (1048576 : Int) < (m : Int) := by omega
        have ho : openB l = (21, []) := by simp [openB, h16, ← hm', hbig]
        rw [ho, hxl]
        simp [L48, e, s4', hs4, ld4]
        refine goT_of T1 ?_
        simp [ld4']
        refine goE_of (hpl _) (hpl _) (eq4 _ l4) ?_
        simp [h4, s8']
        refine goT_of T2 ?_
        simp [e20, e21, hq, hbig']
        exact OG.grown T1.1 T1.grow.next w1 k1
      · have hbig' : ¬ (1048576 : Int) < (m : Int) := by omega
        obtain ⟨y, HA, hap, aA⟩ := OG.pour w1 (nil_own H1) b7.src (by simp; omega)
        have hdl : (l.drop 16).length = m := by simp; omega
        simp only [List.length_nil, Nat.zero_add, List.nil_append, hdl] at hap aA
        have b9A := b9.keep w1 aA.base aA.olds
        have T3 := got_T b9A (fun b hb' => hb b (List.mem_of_mem_take (List.mem_of_mem_drop hb'))) (by simp; omega)
        have T4 := sum_T (own_bs aA.own) (fun b hb' => hb b (List.mem_of_mem_drop hb')) (by omega)
        have aH : OG H HA (.slice none 0 0) (l.drop 16) (.slice y m 0) :=
          ⟨aA.base.trans T1.1, Nat.le_trans T1.grow.next aA.next, aA.wf, aA.own, fun b hlt _ => (aA.olds b (Nat.lt_of_lt_of_le hlt T1.grow.next)).trans (k1 b hlt), fun b hb => by
            rcases aA.old b hb with h | h
            · exact .inl h
            · exact .inr (Nat.le_trans T1.grow.next h)⟩
        obtain ⟨q2, hq2⟩ : ∃ q2, q2 = leN ((l.take 16).drop 8) := ⟨_, rfl⟩
        obtain ⟨q3, hq3⟩ : ∃ q3, q3 = fnv (l.drop 16) := ⟨_, rfl⟩
        rw [← hq2] at T3
        rw [← hq3] at T4
        by_cases hs : q2 = q3
        · have ho : openB l = (0, l.drop 16) := by simp [openB, h16, h4, ← hm', ← hq1, hq, hbig, ← hq2, ← hq3, hs]
          rw [ho, hxl]
          simp [L48, e, s4', hs4, ld4]
          refine goT_of T1 ?_
          simp [ld4']
          refine goE_of (hpl _) (hpl _) (eq4 _ l4) ?_
          simp [h4, s8']
          refine goT_of T2 ?_
          simp [e20, e21, hq, hbig', s7', s9', hap]
          refine goT_of T3 ?_
          simp
          refine goT_of T4 ?_
          simp [hs]
          exact aH
        · have hsi : ((q2 : Int) != (q3 : Int)) = true := bne_iff_ne.2 (by omega)
          have ho : openB l = (22, []) := by simp [openB, h16, h4, ← hm', ← hq1, hq, hbig, ← hq2, ← hq3, hs]
          rw [ho, hxl]
          simp [L48, e, s4', hs4, ld4]
          refine goT_of T1 ?_
          simp [ld4']
          refine goE_of (hpl _) (hpl _) (eq4 _ l4) ?_
          simp [h4, s8']
          refine goT_of T2 ?_
          simp [e20, e21, hq, hbig', s7', s9', hap]
          refine goT_of T3 ?_
          simp
          refine goT_of T4 ?_
          simp [hsi]
          exact OG.grown aH.base aH.next aH.wf aH.olds
    · have hqi : ¬ (q1 : Int) = (m : Int) := by omega
      have ho : openB l = (21, []) := by simp [openB, h16, ← hm', ← hq1, hq]
      rw [ho, hxl]
      simp [L48, e, s4', hs4, ld4]
      refine goT_of T1 ?_
      simp [ld4']
      refine goE_of (hpl _) (hpl _) (eq4 _ l4) ?_
      simp [h4, s8']
      refine goT_of T2 ?_
      have hne : ((q1 : Int) != (m : Int)) = true := bne_iff_ne.2 hqi
      simp [e20, e21, hne]
      exact OG.grown T1.1 T1.grow.next w1 k1
  · have ho : openB l = (21, []) := by simp [openB, h16, h4]
    rw [ho, hxl]
    simp [L48, e, s4', hs4, ld4]
    refine goT_of T1 ?_
    simp [ld4']
    refine goE_of (hpl _) (hpl _) (eq4 _ l4) ?_
    simp [h4]
    exact OG.grown T1.1 T1.grow.next w1 k1
end Go.Proofs.YtnomffikflfilaaGreat.E8
namespace Go.Proofs.YtnomffikflfilaaGreat.E8
open I8
open Go.Ot
set_option linter.unusedSimpArgs false
set_option linter.unusedVariables false
set_option maxRecDepth 100000
def openRB (b : List Nat) : Nat × List Nat :=
  if b.length < 16 then (20, [])
  else if 1048576 < b.length - 16 ∨ b.take 8 ≠ (sealB (b.drop 16)).take 8 then (21, [])
  else if b ≠ sealB (b.drop 16) then (22, [])
  else (0, b.drop 16)
theorem low_lt (k : Nat) : ∀ n, ∀ b ∈ low n k, b < 256 := by
  induction k with
  | zero => intro n b hb; simp [low] at hb
  | succ k ih =>
    intro n b hb
    simp only [low, List.mem_cons] at hb
    rcases hb with rfl | hb
    · exact Nat.mod_lt _ (by decide)
    · exact ih _ b hb
theorem sealB_lt {l : List Nat} (h : ∀ b ∈ l, b < 256) : ∀ b ∈ sealB l, b < 256 := by
  intro b hb
  simp only [sealB, List.mem_append] at hb
  rcases hb with ((hb | hb) | hb) | hb
  · simp [mk4] at hb; omega
  · exact low_lt _ _ b hb
  · exact low_lt _ _ b hb
  · exact h b hb
theorem sealB_len (l : List Nat) : (sealB l).length = 16 + l.length := by simp [sealB, mk4, low_len]; omega
end Go.Proofs.YtnomffikflfilaaGreat.E8
namespace Go.Proofs.YtnomffikflfilaaGreat.E8
open I8
open Go.Ot
set_option linter.unusedSimpArgs false
set_option linter.unusedVariables false
set_option maxRecDepth 100000
theorem low_leN : ∀ (l : List Nat), (∀ b ∈ l, b < 256) → low (leN l) l.length = l
  | [], _ => rfl
  | b :: l, h => by
    have h2 := h b (by simp)
    simp only [leN, List.length_cons, low]
    rw [show (b + 256 * leN l) % 256 = b by omega, show (b + 256 * leN l) / 256 = leN l by omega, low_leN l (fun c hc => h c (by simp [hc]))]
theorem leN_low (k : Nat) : ∀ n, n < 256 ^ k → leN (low n k) = n := by
  induction k with
  | zero => intro n h; simp at h; subst h; rfl
  | succ k ih =>
    intro n h
    rw [Nat.pow_succ] at h
    simp only [low, leN]
    rw [ih (n / 256) (by omega)]
    omega
theorem leN_iff (l : List Nat) (h : ∀ b ∈ l, b < 256) (n : Nat) (hn : n < 256 ^ l.length) : leN l = n ↔ l = low n l.length := by
  constructor
  · intro e; rw [← e, low_leN l h]
  · intro e
    have := leN_low l.length n hn
    rw [← e] at this; exact this
theorem split16 (l : List Nat) (h : 16 ≤ l.length) : l = l.take 4 ++ (l.take 8).drop 4 ++ (l.take 16).drop 8 ++ l.drop 16 := by
  have h1 : l.take 8 = l.take 4 ++ (l.take 8).drop 4 := by
    conv => lhs; rw [← List.take_append_drop 4 (l.take 8)]
    rw [List.take_take]; rfl
  have h2 : l.take 16 = l.take 8 ++ (l.take 16).drop 8 := by
    conv => lhs; rw [← List.take_append_drop 8 (l.take 16)]
    rw [List.take_take]; rfl
  conv => lhs; rw [← List.take_append_drop 16 l, h2, h1]
theorem open_eq (l : List Nat) (hb : ∀ b ∈ l, b < 256) : openB l = openRB l := by
  unfold openB openRB
  by_cases h16 : l.length < 16
  · rw [if_pos h16, if_pos h16]
  rw [if_neg h16, if_neg h16]
  by_cases hbig : 1048576 < l.length - 16
  · rw [if_pos (.inr (.inr hbig)), if_pos (.inl hbig)]
  have hs := split16 l (by omega)
  have l4 : (l.take 4).length = 4 := by simp; omega
  have l8 : ((l.take 8).drop 4).length = 4 := by simp; omega
  have l16 : ((l.take 16).drop 8).length = 8 := by simp; omega
  have i1 := leN_iff ((l.take 8).drop 4) (fun b h => hb b (List.mem_of_mem_take (List.mem_of_mem_drop h))) (l.length - 16) (by rw [l8]; omega)
  have i2 := leN_iff ((l.take 16).drop 8) (fun b h => hb b (List.mem_of_mem_take (List.mem_of_mem_drop h))) (fnv (l.drop 16)) (by rw [l16]; exact Nat.lt_of_lt_of_le (fnv_lt _) (by decide))
  rw [l8] at i1
  rw [l16] at i2
  have hd : (l.drop 16).length = l.length - 16 := by simp
  have t8 : l.take 8 = l.take 4 ++ (l.take 8).drop 4 := by
    conv => lhs; rw [← List.take_append_drop 4 (l.take 8)]
    rw [List.take_take]; rfl
  have s8 : (sealB (l.drop 16)).take 8 = mk4 ++ low (l.length - 16) 4 := by
    unfold sealB
    rw [hd, List.append_assoc, List.append_assoc, ← List.append_assoc mk4]
    rw [List.take_append_of_le_length (by simp [mk4, low_len])]
    exact List.take_of_length_le (by simp [mk4, low_len])
  have e1 : l.take 8 = (sealB (l.drop 16)).take 8 ↔ l.take 4 = mk4 ∧ leN ((l.take 8).drop 4) = l.length - 16 := by
    rw [i1]
    constructor
    · intro h
      exact List.append_inj (t8.symm.trans (h.trans s8)) (by rw [l4]; rfl)
    · rintro ⟨h1, h2⟩
      refine (t8.trans ?_).trans s8.symm
      exact h1 ▸ h2 ▸ rfl
  have hdef : sealB (l.drop 16) = mk4 ++ low (l.length - 16) 4 ++ low (fnv (l.drop 16)) 8 ++ l.drop 16 := by unfold sealB; rw [hd]
  have e2 : (l.take 4 = mk4 ∧ leN ((l.take 8).drop 4) = l.length - 16) → (l = sealB (l.drop 16) ↔ leN ((l.take 16).drop 8) = fnv (l.drop 16)) := by
    rintro ⟨h1, h2⟩
    rw [i2]
    have h3 := i1.1 h2
    constructor
    · intro h
      have h' := hs.symm.trans (h.trans hdef)
      have h5 := (List.append_inj h' (by simp only [List.length_append, l4, l8, l16, low_len]; rfl)).1
      exact (List.append_inj h5 (by simp only [List.length_append, l4, l8, low_len]; rfl)).2
    · intro h
      refine (hs.trans ?_).trans hdef.symm
      exact congrArg (· ++ l.drop 16) (congr (congrArg (· ++ ·) (congr (congrArg (· ++ ·) h1) h3)) h)
  by_cases hq : l.take 4 = mk4 ∧ leN ((l.take 8).drop 4) = l.length - 16
  · rw [if_neg (show ¬ (l.take 4 ≠ mk4 ∨ leN ((l.take 8).drop 4) ≠ l.length - 16 ∨ 1048576 < l.length - 16) by
      rintro (h | h | h)
      · exact h hq.1
      · exact h hq.2
      · exact hbig h), if_neg (show ¬ (1048576 < l.length - 16 ∨ l.take 8 ≠ (sealB (l.drop 16)).take 8) by
      rintro (h | h)
      · exact hbig h
      · exact h (e1.2 hq))]
    by_cases hs2 : l = sealB (l.drop 16)
    · rw [if_neg (fun h => h ((e2 hq).1 hs2)), if_neg (fun h => h hs2)]
    · rw [if_pos (fun h => hs2 ((e2 hq).2 h)), if_pos hs2]
  · have : l.take 4 ≠ mk4 ∨ leN ((l.take 8).drop 4) ≠ l.length - 16 ∨ 1048576 < l.length - 16 := by
      by_cases h1 : l.take 4 = mk4
      · exact .inr (.inl fun h => hq ⟨h1, h⟩)
      · exact .inl h1
    rw [if_pos this, if_pos (.inr fun h => hq (e1.1 h))]
end Go.Proofs.YtnomffikflfilaaGreat.E8
namespace Go.Proofs.YtnomffikflfilaaGreat.E8
open I8
open Go.Ot
set_option linter.unusedSimpArgs false
set_option linter.unusedVariables false
set_option maxRecDepth 100000
theorem open_seal (l : List Nat) (hb : ∀ b ∈ l, b < 256) (hl : l.length ≤ 1048576) : openB (sealB l) = (0, l) := by
  have hd : (sealB l).drop 16 = l := by
    unfold sealB
    rw [List.drop_append_of_le_length (by simp [mk4, low_len])]
    simp [mk4, low_len, List.drop_of_length_le]
  rw [open_eq _ (sealB_lt hb)]
  unfold openRB
  rw [hd, sealB_len, if_neg (by omega), if_neg (by rintro (h | h); omega; exact h rfl), if_neg (by intro h; exact h rfl)]
end Go.Proofs.YtnomffikflfilaaGreat.E8
