/-
  Sums, numbers as bytes, seals: what the functions do.
-/
import Derived.Test.YtpcgganldmmpoaaSeatB
namespace Go.Proofs.Ytpcgganldmmpoaa
open Go.Ot
set_option linter.unusedSimpArgs false
set_option linter.unusedVariables false
def fnv1 (h c : Nat) : Nat := (h ^^^ c) * 1099511628211 % 18446744073709551616
def fnv (l : List Nat) : Nat := l.foldl fnv1 14695981039346656037
theorem fnv1_lt (h c : Nat) : fnv1 h c < 18446744073709551616 := Nat.mod_lt _ (by decide)
theorem fnv_lt (l : List Nat) : fnv l < 18446744073709551616 := by
  unfold fnv
  have key : ∀ (l : List Nat) (a : Nat), a < 18446744073709551616 → l.foldl fnv1 a < 18446744073709551616 := by
    intro l
    induction l with
    | nil => intro a h; exact h
    | cons c l ih => intro a h; exact ih _ (fnv1_lt a c)
  exact key l _ (by decide)
theorem Bs.at {H : Heap} {x : Value} {l : List Nat} (h : Bs H x l) {i : Nat} (hi : i < l.length) : ∃ b off c, x = .slice (some ⟨b, off, none⟩) l.length c ∧ H.load ⟨b, off + i, none⟩ = some (.int .u8 ((l[i] : Nat) : Int)) := by
  rcases h with ⟨rfl, rfl⟩ | ⟨b, off, c, rfl, h⟩
  · simp at hi
  · exact ⟨b, off, c, rfl, h i hi⟩
theorem fnv_step (h c : Nat) (hh : h < 18446744073709551616) (hc : c < 256) :
    sBin .xor (.int .u64 (h : Int)) (.int .u64 (c : Int)) = some (.int .u64 ((h ^^^ c : Nat) : Int)) ∧ IntKind.u64.wrap (((h ^^^ c : Nat) : Int) * 1099511628211) = ((fnv1 h c : Nat) : Int) := by
  refine ⟨?_, ?_⟩
  · rw [sBin_xor, xor_u64 h c hh (by omega)]
  · rw [show ((h ^^^ c : Nat) : Int) * 1099511628211 = (((h ^^^ c) * 1099511628211 : Nat) : Int) from (Int.natCast_mul (h ^^^ c) 1099511628211).symm, wu64_mod]; rfl
def InvS (H : Heap) (x : Value) (l : List Nat) (k : Nat) (t : Tm) (H1 : Heap) : Prop :=
  ∃ i a, i + k = l.length ∧ t 3 = .int .u64 ((a : Nat) : Int) ∧ a < 18446744073709551616 ∧ (l.drop i).foldl fnv1 a = fnv l ∧ t 6 = x ∧ t 7 = .int .i64 l.length ∧ t 8 = .int .i64 (i : Nat) ∧ H1 = H
theorem sum_T {H : Heap} {x : Value} {l : List Nat} (h : Bs H x l) (hb : ∀ b ∈ l, b < 256) (hl : l.length ≤ 140737488355328) : T Try.prog 18 [x] H (.int .u64 ((fnv l : Nat) : Int)) H := by
  refine T_eq hm light18 ?_
  obtain ⟨xa, xc, hxl⟩ := h.len
  rw [hxl]
  simp [L18]
  rw [← hxl]
  refine loop_at (InvS H x l) l.length ?_ ?_
  · exact ⟨0, 14695981039346656037, by omega, by simp, by decide, by simp [fnv], by simp, by simp, by simp, rfl⟩
  · rintro k t H1 ⟨i, a, hik, t3, ha, hf, t6, t7, t8, rfl⟩
    cases k with
    | zero =>
      have e0 : i = l.length := by omega
      subst e0
      simp at hf
      simp [L18_1, t3, t6, t7, t8, hf]
    | succ k =>
      have hi : i < l.length := by omega
      have hi' : (i : Int) < l.length := by omega
      obtain ⟨b, off, c, hx, hld⟩ := h.at hi
      rw [hx] at t6
      have hlt := hb _ (List.getElem_mem hi)
      obtain ⟨s1, s2⟩ := fnv_step a l[i] ha hlt
      have e1 : IntKind.u64.wrap ((l[i] : Nat) : Int) = ((l[i] : Nat) : Int) := wu64 _ (by omega)
      have e2 : IntKind.i64.wrap ((i : Int) + 1) = ((i + 1 : Nat) : Int) := by rw [w64 _ (by omega)]; omega
      simp [L18_1, t3, t6, t7, t8, hi', hld, e1, s1, s2, e2]
      refine ⟨k, Nat.lt_succ_self k, i + 1, fnv1 a l[i], by omega, by simp, fnv1_lt _ _, ?_, by simp [t6, hx], by simp [t7], by simp, rfl⟩
      rw [← hf, List.drop_eq_getElem_cons hi]
      rfl
def InvS2 (H : Heap) (x : Value) (l : List Nat) (k : Nat) (t : Tm) (H1 : Heap) : Prop :=
  ∃ i a, i + k = l.length ∧ t 3 = .int .u64 ((a : Nat) : Int) ∧ a < 18446744073709551616 ∧ (l.drop i).foldl fnv1 a = fnv l ∧ t 0 = x ∧ t 4 = .int .i64 (i : Nat) ∧ H1 = H
theorem sumR_T {H : Heap} {x : Value} {l : List Nat} (h : Bs H x l) (hb : ∀ b ∈ l, b < 256) (hl : l.length ≤ 140737488355328) : T Try.prog 19 [x] H (.int .u64 ((fnv l : Nat) : Int)) H := by
  refine T_eq hm light19 ?_
  obtain ⟨xa, xc, hxl⟩ := h.len
  simp [L19]
  refine loop_at (InvS2 H x l) l.length ?_ ?_
  · exact ⟨0, 14695981039346656037, by omega, by simp, by decide, by simp [fnv], by simp, by simp, rfl⟩
  · rintro k t H1 ⟨i, a, hik, t3, ha, hf, t0, t4, rfl⟩
    cases k with
    | zero =>
      have e0 : i = l.length := by omega
      subst e0
      rw [hxl] at t0
      simp at hf
      simp [L19_1, t3, t0, t4, hf]
    | succ k =>
      have hi : i < l.length := by omega
      have hi' : (i : Int) < l.length := by omega
      obtain ⟨b, off, c, hx, hld⟩ := h.at hi
      rw [hx] at t0
      have hlt := hb _ (List.getElem_mem hi)
      obtain ⟨s1, s2⟩ := fnv_step a l[i] ha hlt
      have e1 : IntKind.u64.wrap ((l[i] : Nat) : Int) = ((l[i] : Nat) : Int) := wu64 _ (by omega)
      have e2 : IntKind.i64.wrap ((i : Int) + 1) = ((i + 1 : Nat) : Int) := by rw [w64 _ (by omega)]; omega
      simp [L19_1, t3, t0, t4, hi', hld, e1, s1, s2, e2]
      refine ⟨k, Nat.lt_succ_self k, i + 1, fnv1 a l[i], by omega, by simp, fnv1_lt _ _, ?_, by simp [t0, hx], by simp, rfl⟩
      rw [← hf, List.drop_eq_getElem_cons hi]
      rfl
/-- A number's lowest bytes, the lowest first. -/
def low (n : Nat) : Nat → List Nat
  | 0 => []
  | k + 1 => n % 256 :: low (n / 256) k
theorem low_len (k : Nat) : ∀ n, (low n k).length = k := by
  induction k with
  | zero => intro n; rfl
  | succ k ih => intro n; simp [low, ih]
abbrev OG (H H' : Heap) (x : Value) (l : List Nat) (x' : Value) : Prop := Og H H' 5 x l.length (bc l) x'
theorem OG.push {H : Heap} (hw : H.WF) {l : List Nat} {x : Value} (h : Own H 5 1 l.length (bc l) x) (b : Nat) (hl : l.length < 140737488355328) :
    ∃ HA, sAppend (H.new 5 1 [.int .u8 (b : Int)]) 5 1 1 x (.slice (some ⟨H.next, 0, none⟩) 1 0) = some (sl (H.next + 1) (l.length + 1), HA) ∧ OG H HA x (l ++ [b]) (sl (H.next + 1) (l.length + 1)) := by
  obtain ⟨HA, h1, h3⟩ := Og.push hw h (.int .u8 (b : Int)) (bytes := 1) (c := 0) (by omega)
  refine ⟨HA, h1, ?_⟩
  have e : (l ++ [b]).length = l.length + 1 := by simp
  unfold OG
  rw [e, bc_append]
  exact h3
theorem OG.pour {H : Heap} (hw : H.WF) {l l2 : List Nat} {x y : Value} (h : Own H 5 1 l.length (bc l) x) (hs : srcCells H 1 y = some (l2.length, bc l2)) (hl : l.length + l2.length ≤ 140737488355328) :
    ∃ a HA, sAppend H 5 1 1 x y = some (.slice a (l.length + l2.length) 0, HA) ∧ OG H HA x (l ++ l2) (.slice a (l.length + l2.length) 0) := by
  obtain ⟨a, HA, h1, h3⟩ := Og.pour hw h hs (bc_len l2) (bytes := 1) (by omega)
  refine ⟨a, HA, h1, ?_⟩
  unfold OG
  rw [List.length_append, bc_append]
  exact h3
def InvL (H : Heap) (x : Value) (all : List Nat) (kk : Nat) (k : Nat) (t : Tm) (H1 : Heap) : Prop :=
  ∃ (w : List Nat) (m i : Nat) (x' : Value), i + k = kk ∧ t 0 = x' ∧ t 1 = .int .u64 (m : Int) ∧ t 7 = .int .i64 kk ∧ t 8 = .int .i64 (i : Nat) ∧ w ++ low m k = all ∧ w.length ≤ all.length ∧ OG H H1 x w x'
theorem put_T {H : Heap} (hw : H.WF) {l : List Nat} {x : Value} (h : Own H 5 1 l.length (bc l) x) (n k : Nat) (hl : l.length + k < 140737488355328) :
    ∃ v H', T Try.prog 44 [x, .int .u64 (n : Int), .int .i64 (k : Int)] H v H' ∧ OG H H' x (l ++ low n k) v := by
  refine T_by hm light44 ?_
  have hall : (l ++ low n k).length < 140737488355328 := by rw [List.length_append, low_len]; exact hl
  simp [L44]
  refine loop_at (InvL H x (l ++ low n k) k) k ?_ ?_
  · exact ⟨l, n, 0, x, by omega, by simp, by simp, by simp, by simp, rfl, by simp, Og.refl hw h⟩
  · rintro j t H1 ⟨w, m, i, x', hik, t0, t1, t7, t8, hall2, hwl, ha⟩
    cases j with
    | zero =>
      have e0 : i = k := by omega
      subst e0
      simp [low] at hall2
      rw [← hall2]
      simp [L44_1, t0, t1, t7, t8]
      obtain ⟨a, ha'⟩ := ha.own.len
      rw [ha'] at ha ⊢
      simp
      exact ha
    | succ j =>
      obtain ⟨HA, hap, ha2⟩ := OG.push ha.wf ha.own (m % 256) (by omega)
      obtain ⟨c, hc⟩ : ∃ c, c = m % 256 := ⟨_, rfl⟩
      obtain ⟨q, hq⟩ : ∃ q, q = m / 256 := ⟨_, rfl⟩
      rw [← hc] at hap ha2
      have e1 : (i : Int) < k := by omega
      have e2 : IntKind.u8.wrap (m : Int) = (c : Int) := by rw [wu8_mod, hc]
      have e3 : sBin .shr (.int .u64 (m : Int)) (.int .u64 8) = some (.int .u64 (q : Int)) := by
        rw [hq]; exact shr_nat .u64 .u64 m 8 (by decide)
      have e4 : IntKind.i64.wrap ((i : Int) + 1) = ((i + 1 : Nat) : Int) := by rw [w64 _ (by omega)]; omega
      simp [L44_1, t0, t1, t7, t8, e1, e2, e3, e4, zerosA, hap]
      simp only [low, ← hc, ← hq] at hall2
      refine ⟨j, Nat.lt_succ_self j, w ++ [c], q, i + 1, _, by omega, by simp, by simp, by simp [t7], by simp, by simpa using hall2, ?_, ha.trans ha2⟩
      rw [← hall2]; simp
def InvM (H : Heap) (all : List Nat) (kk : Nat) (k : Nat) (t : Tm) (H1 : Heap) : Prop :=
  ∃ (w : List Nat) (m i : Nat) (x' : Value), i + k = kk ∧ t 5 = x' ∧ m < 18446744073709551616 ∧ t 0 = .int .u64 (m : Int) ∧ t 1 = .int .i64 kk ∧ t 6 = .int .i64 (i : Nat) ∧ w ++ low m k = all ∧ w.length ≤ all.length ∧ OG H H1 (.slice none 0 0) w x'
theorem nil_own (H : Heap) : Own H 5 1 ([] : List Nat).length (bc []) (.slice none 0 0) := by simpa [bc] using Own.nil _ _ _
theorem lowR_T {H : Heap} (hw : H.WF) (n k : Nat) (hn : n < 18446744073709551616) (hl : k < 140737488355328) :
    ∃ v H', T Try.prog 45 [.int .u64 (n : Int), .int .i64 (k : Int)] H v H' ∧ OG H H' (.slice none 0 0) (low n k) v := by
  refine T_by hm light45 ?_
  have hall : (low n k).length < 140737488355328 := by rw [low_len]; exact hl
  simp [L45]
  refine loop_at (InvM H (low n k) k) k ?_ ?_
  · exact ⟨[], n, 0, _, by omega, by simp, hn, by simp, by simp, by simp, rfl, by simp, Og.refl hw (nil_own H)⟩
  · rintro j t H1 ⟨w, m, i, x', hik, t5, hm64, t0, t1, t6, hall2, hwl, ha⟩
    cases j with
    | zero =>
      have e0 : i = k := by omega
      subst e0
      simp [low] at hall2
      rw [← hall2]
      simp [L45_1, t0, t1, t5, t6]
      obtain ⟨a, ha'⟩ := ha.own.len
      rw [ha'] at ha ⊢
      simp
      exact ha
    | succ j =>
      obtain ⟨HA, hap, ha2⟩ := OG.push ha.wf ha.own (m % 256) (by omega)
      obtain ⟨c, hc⟩ : ∃ c, c = m % 256 := ⟨_, rfl⟩
      obtain ⟨q, hq⟩ : ∃ q, q = m / 256 := ⟨_, rfl⟩
      rw [← hc] at hap ha2
      have e1 : (i : Int) < k := by omega
      have e2 : IntKind.u8.wrap (c : Int) = (c : Int) := wu8 _ (by omega)
      have e5 : sBin .rem (.int .u64 (m : Int)) (.int .u64 256) = some (.int .u64 (c : Int)) := by
        rw [hc]; exact rem_nat .u64 m 256 (by decide)
      have e3 : sBin .quo (.int .u64 (m : Int)) (.int .u64 256) = some (.int .u64 (q : Int)) := by
        rw [hq]; exact quo_u64 m 256 (by decide) hm64
      have e4 : IntKind.i64.wrap ((i : Int) + 1) = ((i + 1 : Nat) : Int) := by rw [w64 _ (by omega)]; omega
      simp [L45_1, t0, t1, t5, t6, e1, e2, e3, e4, e5, zerosA, hap]
      simp only [low, ← hc, ← hq] at hall2
      refine ⟨j, Nat.lt_succ_self j, w ++ [c], q, i + 1, _, by omega, by simp, by omega, by simp, by simp [t1], by simp, by simpa using hall2, ?_, ha.trans ha2⟩
      rw [← hall2]; simp
end Go.Proofs.Ytpcgganldmmpoaa
