/-
  Chapter 25: the program's Fair; the examples.
-/
import Derived.Test.YtmdlfenileiaeaaSeatI
namespace Go.Proofs.Ytmdlfenileiaeaa
open Go.Ot Go.RowKit
set_option linter.unusedSimpArgs false
set_option linter.unusedVariables false
theorem row_snoc {H H1 : Heap} {l : List Ent} {x : Value} (h : Row H H1 36 2 l.length (ec l) x) (e : Ent) (hl : l.length ≤ 1000000) :
    ∃ y H3, sAppend (H1.new 36 2 (erow e)) 36 2 16 x (.slice (some ⟨H1.next, 0, none⟩) 1 0) = some (y, H3) ∧ Row H H3 36 2 (l ++ [e]).length (ec (l ++ [e])) y ∧ y = .slice (some ⟨H1.next + 1, 0, none⟩) (l.length + 1) 0 := by
  obtain ⟨own, on, new⟩ := h
  have hnB := on.wf.next_ge
  have on2 : On H1 (H1.new 36 2 (erow e)) := (On.refl on.wf).new _ _ _
  have own2 := Own.on on.wf own on2
  have s1 : srcCells (H1.new 36 2 (erow e)) 2 (.slice (some ⟨H1.next, 0, none⟩) 1 0) = some (1, erow e) := by
    rw [src_at (ety := 36) (cs := erow e) (by simpa using hnB) (by simp) (by simp [erow])]
    simp [erow]
  have ap := append_any (bytes := 16) own2 s1 (by decide) (by omega)
  refine ⟨_, _, ap, ⟨?_, ?_, ?_⟩, rfl⟩
  · rw [List.length_append, ec_append]
    have : ec [e] = erow e := by simp [ec]
    rw [this]
    refine Own.mk (by rw [List.length_append, ec_len]; simp [erow]; omega) ?_ (by simp)
    have := on.wf.next
    simp
    omega
  · have w2 := on2.wf
    refine ⟨WF_new (WF_drop w2 _) _ _ _, ?_, ?_, fun b hb => ?_⟩
    · simpa using on.base
    · have := on.next
      simp; omega
    · have := on.next
      have h2 : blkOf x ≠ some b := fun hx => by have := new b hx; omega
      simp [show b ≠ H1.next + 1 by omega, blk_drop, h2, show b ≠ H1.next by omega, on.keep b hb]
  · intro b hb
    have : H1.next + 1 = b := by simpa using hb
    have := on.next
    omega
def fairE (wn i : Nat) : Ent := (((i % wn : Nat) : Int), false)
def fairL (wn n : Nat) : List Ent := (List.range n).map (fairE wn)
theorem fairL_len (wn n : Nat) : (fairL wn n).length = n := by simp [fairL]
theorem fairL_snoc (wn n : Nat) : fairL wn (n + 1) = fairL wn n ++ [fairE wn n] := by simp [fairL, List.range_succ]
def fairN (w n : Int) : Nat := if w < 1 ∨ 8 < w ∨ n < 1 then 0 else (min n (40000 / w)).toNat
def InvF2 (H : Heap) (w : Int) (q wn i k1 : Nat) (k : Nat) (t : Tm) (H1 : Heap) : Prop :=
  ∃ (j : Nat) (x : Value), j + k = wn ∧ t 0 = iv w ∧ t 5 = x ∧ t 20 = iv q ∧ t 21 = iv i ∧ t 23 = iv w ∧ t 24 = iv j ∧ Row H H1 36 2 (fairL wn (i * wn + j)).length (ec (fairL wn (i * wn + j))) x
def InvF1 (H : Heap) (w : Int) (q wn : Nat) (k : Nat) (t : Tm) (H1 : Heap) : Prop :=
  ∃ (i : Nat) (x : Value), i + k = q ∧ t 0 = iv w ∧ t 5 = x ∧ t 20 = iv q ∧ t 21 = iv i ∧ Row H H1 36 2 (fairL wn (i * wn)).length (ec (fairL wn (i * wn))) x
theorem fair_N {H : Heap} (hw : H.WF) (w n : Int) (hn : -9223372036854775808 ≤ n ∧ n ≤ 9223372036854775807) :
    TN Try.prog 14 [iv w, iv n] H (fun o H' => ∃ y, o = .ret y ∧ Row H H' 36 2 (fairL w.toNat (fairN w n * w.toNat)).length (ec (fairL w.toNat (fairN w n * w.toNat))) y) := by
  refine N_by hm light14 ?_
  obtain ⟨wn, hwn⟩ : ∃ wn, wn = w.toNat := ⟨_, rfl⟩
  rw [← hwn]
  obtain ⟨q, hq⟩ : ∃ q, q = fairN w n := ⟨_, rfl⟩
  rw [← hq]
  have none_ : (w < 1 ∨ 8 < w ∨ n < 1) → ∃ y, (Out.ret (.slice none 0 0)) = .ret y ∧ Row H H 36 2 (fairL wn (q * wn)).length (ec (fairL wn (q * wn))) y := by
    intro h
    have : q = 0 := by rw [hq, fairN, if_pos h]
    rw [this]
    simp only [Nat.zero_mul]
    exact ⟨_, rfl, Row.nil hw _ _⟩
  by_cases w1 : w < 1
  · have := none_ (.inl w1)
    simp [L14, w1]
    simpa using this
  by_cases w8 : 8 < w
  · have := none_ (.inr (.inl w8))
    simp [L14, w1, w8]
    simpa using this
  by_cases n1 : n < 1
  · have := none_ (.inr (.inr n1))
    simp [L14, w1, w8, n1]
    simpa using this
  have hqv : q = (min n (40000 / w)).toNat := by rw [hq, fairN, if_neg (by omega)]
  have hd : 40000 / w ≤ 40000 := Int.ediv_le_self _ (by decide)
  have hd0 : 0 ≤ 40000 / w := Int.ediv_nonneg (by decide) (by omega)
  have sq : sBin .quo (.int .i64 40000) (iv w) = some (iv (40000 / w)) := by
    rw [sBin_quo, if_neg (by omega), Int.tdiv_eq_ediv_of_nonneg (by decide), w64 _ (by omega)]
  have hmn : min n (40000 / w) = (q : Int) := by omega
  have mmv : sMM false (iv n) [iv (40000 / w)] = some (iv q) := by
    rw [← hmn]
    simp [sMM, sMinMax]
    omega
  have ewn : w = (wn : Int) := by omega
  have hqw : q * wn ≤ 40000 := by
    have h1 : (40000 / w) * w ≤ 40000 := Int.ediv_mul_le _ (by omega)
    have h2 : (q : Int) * w ≤ (40000 / w) * w := Int.mul_le_mul_of_nonneg_right (by omega) (by omega)
    have : ((q * wn : Nat) : Int) = (q : Int) * w := by rw [Int.natCast_mul, ewn]
    omega
  simp [L14, w1, w8, n1, sq, mmv]
  refine loopN_at (InvF1 H w q wn) q ?_ ?_
  · exact ⟨0, .slice none 0 0, by omega, by simp, by simp, by simp, by simp, by rw [Nat.zero_mul]; exact Row.nil hw _ _⟩
  · rintro k t H1 ⟨i, x, hik, t0, t5, t20, t21, row⟩
    cases k with
    | zero =>
      have e1 : ¬ ((i : Int) < q) := by omega
      have ei : i = q := by omega
      subst ei
      obtain ⟨ax, hx⟩ := row.own.len
      have hnt : notTup x = true := by rw [hx]; rfl
      simp [L14_2, t20, t21, e1, t5, hnt]
      exact row
    | succ k =>
      have e1 : ((i : Int) < q) := by omega
      have e4 : IntKind.i64.wrap ((i : Int) + 1) = ((i + 1 : Nat) : Int) := by rw [w64 _ (by omega)]; omega
      obtain ⟨iN, hiN⟩ : ∃ m : Nat, m = i + 1 := ⟨_, rfl⟩
      rw [← hiN] at e4
      have hmul : (i + 1) * wn ≤ q * wn := Nat.mul_le_mul_right _ (by omega)
      rw [Nat.add_mul, Nat.one_mul] at hmul
      simp [L14_2, t20, t21, e1, t0]
      refine loopN_at (InvF2 H w q wn i k) wn ?_ ?_
      · exact ⟨0, x, by omega, by simp [t0], by simp [t5], by simp [t20], by simp [t21], by simp, by simp, row⟩
      · rintro k2 tt H2 ⟨j, x2, hjk, u0, u5, u20, u21, u23, u24, row2⟩
        cases k2 with
        | zero =>
          have c1 : ¬ ((j : Int) < w) := by omega
          have ej : j = wn := by omega
          subst ej
          simp [L14_1, u23, u24, c1, u21, e4]
          refine ⟨k, by omega, iN, x2, by omega, by simp [u0], by simp [u5], by simp [u20], by simp, ?_⟩
          rw [show iN * j = i * j + j by rw [hiN, Nat.add_mul]; omega]
          exact row2
        | succ k2 =>
          have c1 : ((j : Int) < w) := by omega
          have e5 : IntKind.i64.wrap ((j : Int) + 1) = ((j + 1 : Nat) : Int) := by rw [w64 _ (by omega)]; omega
          obtain ⟨jN, hjN⟩ : ∃ m : Nat, m = j + 1 := ⟨_, rfl⟩
          rw [← hjN] at e5
          have hlen := fairL_len wn (i * wn + j)
          obtain ⟨y, H3, ap, row3, hy⟩ := row_snoc row2 ((j : Int), false) (by rw [hlen]; omega)
          have hz2 : zerosA [iv 0, .bool false] 2 = [iv 0, .bool false] := rfl
          simp only [erow] at ap
          have hfe : fairL wn (i * wn + j) ++ [((j : Int), false)] = fairL wn (i * wn + jN) := by
            rw [hjN, ← Nat.add_assoc, fairL_snoc]
            have : (i * wn + j) % wn = j := by rw [Nat.add_comm, Nat.add_mul_mod_self_right, Nat.mod_eq_of_lt (by omega)]
            simp [fairE, this]
          rw [hfe] at row3
          simp [L14_1, u23, u24, c1, u5, hz2, ap, e5]
          exact ⟨k2, by omega, jN, y, by omega, by simp [u0], by simp, by simp [u20], by simp [u21], by simp [u23], by simp, row3⟩
end Go.Proofs.Ytmdlfenileiaeaa
