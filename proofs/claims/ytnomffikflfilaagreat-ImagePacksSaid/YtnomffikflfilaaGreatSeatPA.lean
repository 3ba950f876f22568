/-
  Chapter 26: texts and flags laid down; seals (carried over from chapter 2).
-/
import Derived.Test.YtnomffikflfilaaGreatSeatEA
import Derived.ChangeKeysEq
import Derived.Laws.StructEq
namespace Go.Proofs.YtnomffikflfilaaGreat.E8
open Go.Ot
set_option linter.unusedSimpArgs false
set_option linter.unusedVariables false
set_option maxRecDepth 100000
def sb (s : ByteArray) : List Nat := s.data.toList.map fun b => b.toNat
theorem sb_len (s : ByteArray) : (sb s).length = s.size := by unfold sb; rw [List.length_map, Array.length_toList]; rfl
theorem bytesV_sb (s : ByteArray) : bytesV s = bc (sb s) := by simp [bytesV, bc, sb]
theorem WR.pour {H : Heap} (hw : H.WF) {p : Nat} {bs l : List Nat} {x y : Value} (h : WR H p bs x) (hs : srcCells H 1 y = some (l.length, bc l)) (hl : bs.length + l.length ≤ 140737488355328) :
    ∃ a HA, sAppend H 5 1 1 x y = some (.slice a (bs.length + l.length) 0, HA) ∧ (∀ w, HA.store ⟨p, 0, none⟩ w = some (HA.put p [w])) ∧
      AF H (HA.put p [.slice a (bs.length + l.length) 0]) p x (bs ++ l) (.slice a (bs.length + l.length) 0) := by
  obtain ⟨x', HA, h1, ⟨a, rfl⟩, h2, h3⟩ := Wr.pour hw h hs (bc_len l) (bytes := 1) (by omega)
  refine ⟨a, HA, h1, h2, ?_⟩
  unfold AF
  rw [List.length_append, bc_append]
  exact h3
theorem text_T {H : Heap} (hw : H.WF) {p : Nat} {bs : List Nat} {x : Value} (h : WR H p bs x) (s : ByteArray) (hl : bs.length ≤ 100000000000000) (hs : s.size ≤ 10000000000000) :
    ∃ v H', T Tryz.prog 75 [ptr p, .string s] H v H' ∧ ∃ x', AF H H' p x (bs ++ encU s.size ++ sb s) x' := by
  have hle : (encU s.size).length ≤ 10 := encU_len 9 _ (by omega)
  obtain ⟨v, H1, T1, x1, a1⟩ := uint_T hw h (n := s.size) (by omega) hl
  refine T_by hm light75 ?_
  have e1 : IntKind.u64.wrap (s.size : Int) = (s.size : Int) := wu64 _ (by omega)
  obtain ⟨w, hw0⟩ : ∃ w, w = bs ++ encU s.size := ⟨_, rfl⟩
  rw [← hw0] at a1 ⊢
  have hwl : w.length ≤ 100000000000010 := by rw [hw0, List.length_append]; omega
  obtain ⟨a, HA, hap, hst, a2⟩ := WR.pour a1.wf a1.wr (y := .string s) (l := sb s) (by rw [srcCells_string, bytesV_sb, sb_len]) (by rw [sb_len]; omega)
  have hld := a1.wr.load
  simp [L75, e1]
  refine goT_of T1 ?_
  simp [hld, hap, hst]
  exact ⟨_, a1.trans a2⟩
theorem flag_T {H : Heap} (hw : H.WF) {p : Nat} {bs : List Nat} {x : Value} (h : WR H p bs x) (b : Bool) (hl : bs.length ≤ 100000000000000) :
    ∃ v H', T Tryz.prog 76 [ptr p, .bool b] H v H' ∧ ∃ x', AF H H' p x (bs ++ [if b then 1 else 0]) x' := by
  refine T_by hm light76 ?_
  have hld := h.load
  cases b with
  | true =>
    obtain ⟨HA, hap, hst, a2⟩ := WR.push hw h 1 (by omega)
    have hap' : sAppend (H.new 5 1 [.int .u8 1]) 5 1 1 x (.slice (some ⟨H.next, 0, none⟩) 1 0) = _ := hap
    simp [L76, hld, zerosA, hap', hst]
    exact ⟨_, a2⟩
  | false =>
    obtain ⟨HA, hap, hst, a2⟩ := WR.push hw h 0 (by omega)
    have hap' : sAppend (H.new 5 1 [.int .u8 0]) 5 1 1 x (.slice (some ⟨H.next, 0, none⟩) 1 0) = _ := hap
    simp [L76, hld, zerosA, hap', hst]
    exact ⟨_, a2⟩
end Go.Proofs.YtnomffikflfilaaGreat.E8
namespace Go.Proofs.YtnomffikflfilaaGreat.E8
open Go.Ot
set_option linter.unusedSimpArgs false
set_option linter.unusedVariables false
set_option maxRecDepth 100000
def fnv1 (h c : Nat) : Nat := (h ^^^ c) * 1099511628211 % 18446744073709551616
def fnv (l : List Nat) : Nat := l.foldl fnv1 14695981039346656037
theorem fnv1_lt (h c : Nat) : fnv1 h c < 18446744073709551616 := Nat.mod_lt _ (by decide)
theorem fnv_lt (l : List Nat) : fnv l < 18446744073709551616 := by
  unfold fnv
  have key : ∀ (l : List Nat) (a : Nat), a < 18446744073709551616 → l.foldl fnv1 a < 18446744073709551616 := by
    intro l
    induction l with
    | nil => intro a h; exact h
    | cons c l ih => intro a h; exact ih _ (fnv1_lt a c)
  exact key l _ (by decide)
theorem fnv_step (h c : Nat) (hh : h < 18446744073709551616) (hc : c < 256) :
    sBin .xor (.int .u64 (h : Int)) (.int .u64 (c : Int)) = some (.int .u64 ((h ^^^ c : Nat) : Int)) ∧ IntKind.u64.wrap (((h ^^^ c : Nat) : Int) * 1099511628211) = ((fnv1 h c : Nat) : Int) := by
  refine ⟨?_, ?_⟩
  · rw [sBin_xor, xor_u64 h c hh (by omega)]
  · rw [show ((h ^^^ c : Nat) : Int) * 1099511628211 = (((h ^^^ c) * 1099511628211 : Nat) : Int) from (Int.natCast_mul (h ^^^ c) 1099511628211).symm, wu64_mod]; rfl
def InvS (H : Heap) (x : Value) (l : List Nat) (k : Nat) (t : Tm) (H1 : Heap) : Prop :=
  ∃ i a, i + k = l.length ∧ t 3 = .int .u64 ((a : Nat) : Int) ∧ a < 18446744073709551616 ∧ (l.drop i).foldl fnv1 a = fnv l ∧ t 6 = x ∧ t 7 = .int .i64 l.length ∧ t 8 = .int .i64 (i : Nat) ∧ H1 = H
theorem sum_T {H : Heap} {x : Value} {l : List Nat} (h : Bs H x l) (hb : ∀ b ∈ l, b < 256) (hl : l.length ≤ 140737488355328) : T Tryz.prog 79 [x] H (.int .u64 ((fnv l : Nat) : Int)) H := by
  refine T_eq hm light79 ?_
  obtain ⟨xa, xc, hxl⟩ := h.len
  rw [hxl]
  simp [L79]
  rw [← hxl]
  refine loop_at (InvS H x l) l.length ?_ ?_
  · exact ⟨0, 14695981039346656037, by omega, by simp, by decide, by simp [fnv], by simp, by simp, by simp, rfl⟩
  · rintro k t H1 ⟨i, a, hik, t3, ha, hf, t6, t7, t8, rfl⟩
    cases k with
    | zero =>
      have e0 : i = l.length := by omega
      subst e0
      simp at hf
      simp [L79_1, t3, t6, t7, t8, hf]
    | succ k =>
      have hi : i < l.length := by omega
      have hi' : (i : Int) < l.length := by omega
      obtain ⟨b, off, c, hx, hld⟩ := h.at hi
      rw [hx] at t6
      have hlt := hb _ (List.getElem_mem hi)
      obtain ⟨s1, s2⟩ := fnv_step a l[i] ha hlt
      have e1 : IntKind.u64.wrap ((l[i] : Nat) : Int) = ((l[i] : Nat) : Int) := wu64 _ (by omega)
      have e2 : IntKind.i64.wrap ((i : Int) + 1) = ((i + 1 : Nat) : Int) := by rw [w64 _ (by omega)]; omega
      simp [L79_1, t3, t6, t7, t8, hi', hld, e1, s1, s2, e2]
      refine ⟨k, Nat.lt_succ_self k, i + 1, fnv1 a l[i], by omega, by simp, fnv1_lt _ _, ?_, by simp [t6, hx], by simp [t7], by simp, rfl⟩
      rw [← hf, List.drop_eq_getElem_cons hi]
      rfl
def low (n : Nat) : Nat → List Nat
  | 0 => []
  | k + 1 => n % 256 :: low (n / 256) k
theorem low_len (k : Nat) : ∀ n, (low n k).length = k := by
  induction k with
  | zero => intro n; rfl
  | succ k ih => intro n; simp [low, ih]
def InvL (H : Heap) (x : Value) (all : List Nat) (kk : Nat) (k : Nat) (t : Tm) (H1 : Heap) : Prop :=
  ∃ (w : List Nat) (m i : Nat) (x' : Value), i + k = kk ∧ t 0 = x' ∧ t 1 = .int .u64 (m : Int) ∧ t 7 = .int .i64 kk ∧ t 8 = .int .i64 (i : Nat) ∧ w ++ low m k = all ∧ w.length ≤ all.length ∧ OG H H1 x w x'
theorem put_T {H : Heap} (hw : H.WF) {l : List Nat} {x : Value} (h : Own H 5 1 l.length (bc l) x) (n k : Nat) (hl : l.length + k < 140737488355328) :
    ∃ v H', T Tryz.prog 78 [x, .int .u64 (n : Int), .int .i64 (k : Int)] H v H' ∧ OG H H' x (l ++ low n k) v := by
  refine T_by hm light78 ?_
  have hall : (l ++ low n k).length < 140737488355328 := by rw [List.length_append, low_len]; exact hl
  simp [L78]
  refine loop_at (InvL H x (l ++ low n k) k) k ?_ ?_
  · exact ⟨l, n, 0, x, by omega, by simp, by simp, by simp, by simp, rfl, by simp, Og.refl hw h⟩
  · rintro j t H1 ⟨w, m, i, x', hik, t0, t1, t7, t8, hall2, hwl, ha⟩
    cases j with
    | zero =>
      have e0 : i = k := by omega
      subst e0
      simp [low] at hall2
      rw [← hall2]
      simp [L78_1, t0, t1, t7, t8]
      obtain ⟨a, ha'⟩ := ha.own.len
      rw [ha'] at ha ⊢
      simp
      exact ha
    | succ j =>
      obtain ⟨HA, hap, ha2⟩ := OG.push ha.wf ha.own (m % 256) (by omega)
      obtain ⟨c, hc⟩ : ∃ c, c = m % 256 := ⟨_, rfl⟩
      obtain ⟨q, hq⟩ : ∃ q, q = m / 256 := ⟨_, rfl⟩
      rw [← hc] at hap ha2
      have e1 : (i : Int) < k := by omega
      have e2 : IntKind.u8.wrap (m : Int) = (c : Int) := by rw [wu8_mod, hc]
      have e3 : sBin .shr (.int .u64 (m : Int)) (.int .u64 8) = some (.int .u64 (q : Int)) := by
        rw [hq]; exact shr_nat .u64 .u64 m 8 (by decide)
      have e4 : IntKind.i64.wrap ((i : Int) + 1) = ((i + 1 : Nat) : Int) := by rw [w64 _ (by omega)]; omega
      simp [L78_1, t0, t1, t7, t8, e1, e2, e3, e4, zerosA, hap]
      simp only [low, ← hc, ← hq] at hall2
      refine ⟨j, Nat.lt_succ_self j, w ++ [c], q, i + 1, _, by omega, by simp, by simp, by simp [t7], by simp, by simpa using hall2, ?_, ha.trans ha2⟩
      rw [← hall2]; simp
end Go.Proofs.YtnomffikflfilaaGreat.E8
namespace Go.Proofs.YtnomffikflfilaaGreat.E8
open Go.Ot
set_option linter.unusedSimpArgs false
set_option linter.unusedVariables false
set_option maxRecDepth 100000
def mk4 : List Nat := [111, 117, 116, 114]
theorem mark_T {H : Heap} (hw : H.WF) : ∃ v H', T Tryz.prog 77 [] H v H' ∧ v = .agg (bc mk4).toArray ∧ Same H H' [] := by
  refine T_by hm light77 ?_
  have hnB := hw.next_ge
  simp [L77, sStore_agg, Heap.storeN, Heap.loadN, add_own, Heap.store, Heap.load, hnB, bc, mk4]
  intro b hb _
  have m1 : b ≠ H.next := by omega
  simp [m1]
def sealB (body : List Nat) : List Nat := mk4 ++ low body.length 4 ++ low (fnv body) 8 ++ body
theorem seal_big {H : Heap} {x : Value} {l : List Nat} (h : Bs H x l) (hl : 1048576 < l.length) : T Tryz.prog 37 [x] H (.tuple #[.slice none 0 0, .int .i64 23]) H := by
  refine T_eq hm light37 ?_
  obtain ⟨xa, xc, rfl⟩ := h.len
  have e : (1048576 : Int) < l.length := by omega
  simp [L37, e]
theorem seal_T {H : Heap} (hw : H.WF) {x : Value} {l : List Nat} (h : Bs H x l) (hb : ∀ b ∈ l, b < 256) (hl : l.length ≤ 1048576) :
    ∃ v H', T Tryz.prog 37 [x] H v H' ∧ ∃ y, v = .tuple #[y, .int .i64 0] ∧ OG H H' (.slice none 0 0) (sealB l) y := by
  refine T_by hm light37 ?_
  obtain ⟨xa, xc, hxl⟩ := h.len
  have e : ¬ (1048576 : Int) < l.length := by omega
  have e1 : IntKind.u64.wrap (l.length : Int) = (l.length : Int) := wu64 _ (by omega)
  obtain ⟨v1, H1, T1, rfl, S1⟩ := mark_T hw
  have w1 := T1.grow.wf hw
  have hnB := w1.next_ge
  have n1 := T1.grow.next
  obtain ⟨HM, hHM⟩ : ∃ HM, HM = H1.new 157 4 [.int .u8 111, .int .u8 117, .int .u8 116, .int .u8 114] := ⟨_, rfl⟩
  have wM : HM.WF := by rw [hHM]; exact WF_new w1 _ _ _
  have nM : HM.next = H1.next + 1 := by rw [hHM]; rfl
  have bM : HM.base = H.base := by rw [hHM]; exact T1.1
  have src : srcCells HM 1 (.slice (some ⟨H1.next, 0, none⟩) 4 1) = some (4, bc mk4) := by
    rw [srcCells_slice, loadN_at (k := ⟨157, 4, bc mk4⟩) (by rw [hHM]; exact hnB) (by rw [hHM]; simp [bc, mk4]) (by simp [bc, mk4])]
    simp [bc, mk4]
  have hap := append_nil (ety := 5) (bytes := 1) src (by omega) (by omega)
  have a2 : OG H (HM.new 5 1 (bc mk4)) (.slice none 0 0) mk4 (sl HM.next 4) := by
    refine ⟨bM, by simp; omega, WF_new wM _ _ _, Own.mk (by simp [bc, mk4]) (by simpa using wM.next_ge) (by simp), ?_, ?_⟩
    · intro b hb _
      have m1 : b ≠ H1.next := by omega
      have m2 : b ≠ HM.next := by omega
      simp only [blk_new, m2, if_false]
      rw [hHM]
      simp [m1, S1 b hb (by simp)]
    · intro b hb; simp at hb; omega
  obtain ⟨HN, hHN⟩ : ∃ HN, HN = HM.new 5 1 (bc mk4) := ⟨_, rfl⟩
  rw [← hHN] at hap a2
  have h2 := h.keep hw a2.base a2.olds
  obtain ⟨v3, H3, T3, a3⟩ := put_T a2.wf a2.own l.length 4 (by simp [mk4])
  have a3' := a2.trans a3
  have h3 := h.keep hw a3'.base (OG.olds a3')
  have T4 := sum_T h3 hb (by omega)
  obtain ⟨v5, H5, T5, a5⟩ := put_T a3'.wf a3'.own (fnv l) 8 (by simp [mk4, low_len])
  have a5' := Og.trans a3' a5
  have h5 := h.keep hw a5'.base (OG.olds a5')
  obtain ⟨a, H6, hap6, a6⟩ := OG.pour a5'.wf a5'.own h5.src (by simp [mk4, low_len]; omega)
  have a6' := Og.trans a5' a6
  rw [nM] at hap T3
  rw [hHM] at hap
  rw [hxl] at T4 hap6
  rw [hxl]
  simp [L37, e, e1]
  refine goT_of T1 ?_
  simp [sStore_agg, Heap.storeN, Heap.loadN, add_own, Heap.store, Heap.load, hnB, bc, mk4, sSliceArr, bnd, Addr.add, put_put, new_put, hap, e1]
  refine goT_of T3 ?_
  simp
  refine goT_of T4 ?_
  simp
  refine goT_of T5 ?_
  simp [hap6]
  have e9 : mk4.length + ((low l.length 4).length + (low (fnv l) 8).length) + l.length = (mk4 ++ low l.length 4 ++ low (fnv l) 8).length + l.length := by simp
  rw [e9]
  exact a6'
end Go.Proofs.YtnomffikflfilaaGreat.E8
namespace Go.Proofs.YtnomffikflfilaaGreat.E8
open Go.Ot
set_option linter.unusedSimpArgs false
set_option linter.unusedVariables false
set_option maxRecDepth 100000
theorem sub_bs {H : Heap} {b off n c : Nat} {l : List Nat} (h : ∀ i (h : i < l.length), H.load ⟨b, off + i, none⟩ = some (.int .u8 ((l[i] : Nat) : Int))) (lo hi : Nat) (h1 : lo ≤ hi) (h2 : hi ≤ l.length) (c' : Nat) :
    Bs H (.slice (some ⟨b, off + lo, none⟩) (hi - lo) c') ((l.take hi).drop lo) := by
  have hlen : ((l.take hi).drop lo).length = hi - lo := by simp; omega
  refine .inr ⟨b, off + lo, c', by rw [hlen], fun i hi' => ?_⟩
  rw [hlen] at hi'
  rw [show off + lo + i = off + (lo + i) by omega, h (lo + i) (by omega)]
  simp
theorem Bs.part {H : Heap} {x : Value} {l : List Nat} (h : Bs H x l) (lo hi : Nat) (h1 : lo ≤ hi) (h2 : hi ≤ l.length) (h0 : 0 < l.length) :
    (∃ a c, sSlice 1 x (some (.int .i64 (lo : Int))) (some (.int .i64 (hi : Int))) none = some (.slice (some a) (hi - lo) c) ∧ Bs H (.slice (some a) (hi - lo) c) ((l.take hi).drop lo)) ∧
    (∃ a c, sSlice 1 x none (some (.int .i64 (hi : Int))) none = some (.slice (some a) hi c) ∧ Bs H (.slice (some a) hi c) (l.take hi)) ∧
    (∃ a c, sSlice 1 x (some (.int .i64 (lo : Int))) none none = some (.slice (some a) (l.length - lo) c) ∧ Bs H (.slice (some a) (l.length - lo) c) (l.drop lo)) := by
  rcases h with ⟨rfl, rfl⟩ | ⟨b, off, c, rfl, h⟩
  · simp at h0
  · have hlo : lo ≤ l.length := by omega
    refine ⟨⟨⟨b, off + lo, none⟩, (if lo = 0 then (if c = 1 then (if hi = l.length then 1 else 2) else c) else 2), ?_, sub_bs (n := 0) (c := 0) h lo hi h1 h2 _⟩,
      ⟨⟨b, off, none⟩, (if c = 1 then (if hi = l.length then 1 else 2) else c), ?_, ?_⟩, ⟨⟨b, off + lo, none⟩, (if lo = 0 then c else 2), ?_, ?_⟩⟩
    · simp [sSlice, bnd, h1, h2, add_own]
    · simp [sSlice, bnd, h2, add_own]
    · simpa using sub_bs (n := 0) (c := 0) h 0 hi (by omega) h2 (if c = 1 then (if hi = l.length then 1 else 2) else c)
    · simp [sSlice, bnd, hlo, add_own]
      by_cases hz : lo = 0
      · by_cases hc : c = 1 <;> simp [hz, hc]
      · simp [hz]
    · simpa using sub_bs (n := 0) (c := 0) h lo l.length (by omega) (Nat.le_refl _) (if lo = 0 then c else 2)
end Go.Proofs.YtnomffikflfilaaGreat.E8
namespace Go.Proofs.YtnomffikflfilaaGreat.E8
open Go.Ot
set_option linter.unusedSimpArgs false
set_option linter.unusedVariables false
set_option maxRecDepth 100000
theorem Bs.loadN {H : Heap} {a : Addr} {n c : Nat} {l : List Nat} (h : Bs H (.slice (some a) n c) l) : H.loadN a 0 l.length = some (bc l) := by
  rcases h with ⟨h, _⟩ | ⟨b, off, c', h1, h2⟩
  · cases h
  · cases h1
    exact loadN_all (fun j hj => by simpa using h2 j hj)
theorem OG.grown {H H1 : Heap} (hb : H1.base = H.base) (hn : H.next ≤ H1.next) (hw : H1.WF) (hk : ∀ b, b < H.next → H1.blk b = H.blk b) : OG H H1 (.slice none 0 0) [] (.slice none 0 0) :=
  ⟨hb, hn, hw, nil_own H1, fun b hlt _ => hk b hlt, by simp⟩
end Go.Proofs.YtnomffikflfilaaGreat.E8
namespace Go.Proofs.YtnomffikflfilaaGreat.E8
open Go.Ot
set_option linter.unusedSimpArgs false
set_option linter.unusedVariables false
set_option maxRecDepth 100000
end Go.Proofs.YtnomffikflfilaaGreat.E8
namespace Go.Proofs.YtnomffikflfilaaGreat.E8
open Go.Ot
set_option linter.unusedSimpArgs false
set_option linter.unusedVariables false
set_option maxRecDepth 100000
end Go.Proofs.YtnomffikflfilaaGreat.E8
namespace Go.Proofs.YtnomffikflfilaaGreat.E8
open Go.Ot
set_option linter.unusedSimpArgs false
set_option linter.unusedVariables false
set_option maxRecDepth 100000
end Go.Proofs.YtnomffikflfilaaGreat.E8
