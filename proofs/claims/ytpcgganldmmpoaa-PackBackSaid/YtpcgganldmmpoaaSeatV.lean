/-
  Things laid down: the law's functions, and the document's bytes.
-/
import Derived.Test.YtpcgganldmmpoaaSeatU
namespace Go.Proofs.Ytpcgganldmmpoaa
open Go.Ot Go.ChangeShapes Go.WideShapes Go.ChangeAt Go.RowKit
set_option linter.unusedSimpArgs false
set_option linter.unusedVariables false
/-- A thing to be laid down. -/
structure It where
  kind : Int
  u : Nat
  n : Int
  is : Bool
  s : ByteArray
  x : Value
  l : List Int
structure ItOk (H : Heap) (a : It) : Prop where
  kind : -9223372036854775808 ≤ a.kind ∧ a.kind ≤ 9223372036854775807
  u : a.u < 18446744073709551616
  n : -9223372036854775808 ≤ a.n ∧ a.n ≤ 9223372036854775807
  l : ∀ n ∈ a.l, -9223372036854775808 ≤ n ∧ n ≤ 9223372036854775807
  x : IntsB H .i64 a.x a.l
/-- Such a slice of things came in. -/
def Items (H : Heap) (x : Value) (l : List It) : Prop :=
  (x = .slice none 0 0 ∧ l = []) ∨ ∃ b off c, x = .slice (some ⟨b, off, none⟩) l.length c ∧ ∀ i (h : i < l.length), b < H.B ∧ ItOk H l[i] ∧ H.load ⟨b, off + i * 6, none⟩ = some (.int .i64 l[i].kind) ∧ H.load ⟨b, off + i * 6 + 1, none⟩ = some (.int .u64 (l[i].u : Int)) ∧
    H.load ⟨b, off + i * 6 + 2, none⟩ = some (.int .i64 l[i].n) ∧ H.load ⟨b, off + i * 6 + 3, none⟩ = some (.bool l[i].is) ∧ H.load ⟨b, off + i * 6 + 4, none⟩ = some (.string l[i].s) ∧ H.load ⟨b, off + i * 6 + 5, none⟩ = some l[i].x
theorem Items.len {H : Heap} {x : Value} {l : List It} (h : Items H x l) : ∃ a c, x = .slice a l.length c := by
  rcases h with ⟨rfl, rfl⟩ | ⟨b, off, c, rfl, h⟩ <;> exact ⟨_, _, rfl⟩
theorem Items.keep {H H' : Heap} (hb : H'.base = H.base) {x : Value} {l : List It} (h : Items H x l) : Items H' x l := by
  rcases h with h | ⟨b, off, c, rfl, h⟩
  · exact .inl h
  · refine .inr ⟨b, off, c, rfl, fun i hi => ?_⟩
    obtain ⟨h0, hk, h1, h2, h3, h4, h5, h6⟩ := h i hi
    refine ⟨by rw [B_eq hb]; exact h0, ⟨hk.kind, hk.u, hk.n, hk.l, hk.x.keep hb⟩, ?_, ?_, ?_, ?_, ?_, ?_⟩ <;> rw [load_ext hb h0] <;> assumption
theorem Items.at {H : Heap} {x : Value} {l : List It} (h : Items H x l) {i : Nat} (hi : i < l.length) : ∃ b off c, x = .slice (some ⟨b, off, none⟩) l.length c ∧ ItOk H l[i] ∧ H.load ⟨b, off + i * 6, none⟩ = some (.int .i64 l[i].kind) ∧ H.load ⟨b, off + i * 6 + 1, none⟩ = some (.int .u64 (l[i].u : Int)) ∧
    H.load ⟨b, off + i * 6 + 2, none⟩ = some (.int .i64 l[i].n) ∧ H.load ⟨b, off + i * 6 + 3, none⟩ = some (.bool l[i].is) ∧ H.load ⟨b, off + i * 6 + 4, none⟩ = some (.string l[i].s) ∧ H.load ⟨b, off + i * 6 + 5, none⟩ = some l[i].x := by
  rcases h with ⟨rfl, rfl⟩ | ⟨b, off, c, rfl, h⟩
  · simp at hi
  · obtain ⟨_, h⟩ := h i hi
    exact ⟨b, off, c, rfl, h⟩
def kindN (n : Int) : Nat := (n % 5).toNat
theorem kind_T {H : Heap} (n : Int) (hn : -9223372036854775808 ≤ n ∧ n ≤ 9223372036854775807) : T Try.prog 32 [.int .i64 n] H (.int .i64 ((kindN n : Nat) : Int)) H := by
  refine T_eq hm light32 ?_
  have h1 := Int.tmod_lt_of_pos n (show (0 : Int) < 5 by omega)
  have h2 := Int.lt_tmod_of_pos n (show (0 : Int) < 5 by omega)
  have h3 := Int.mul_tdiv_add_tmod n 5
  have r1 : sBin .rem (.int .i64 n) (.int .i64 5) = some (.int .i64 (n.tmod 5)) := by rw [sBin_rem, if_neg (by omega)]
  obtain ⟨r, hr⟩ : ∃ r, r = n.tmod 5 := ⟨_, rfl⟩
  rw [← hr] at h1 h2 h3 r1
  have e1 : IntKind.i64.wrap (r + 5) = r + 5 := w64 _ (by omega)
  obtain ⟨s, hs⟩ : ∃ s : Nat, (s : Int) = r + 5 := ⟨(r + 5).toNat, by omega⟩
  have e2 : s % 5 = kindN n := by unfold kindN; omega
  have r2 : sBin .rem (.int .i64 (s : Int)) (.int .i64 5) = some (.int .i64 ((kindN n : Nat) : Int)) := by rw [← e2]; exact rem_nat .i64 s 5 (by decide)
  rw [← hs] at e1
  simp [L32, r1, ← hs, e1, r2]
def encIt (a : It) : List Nat :=
  if kindN a.kind = 0 then encU a.u else if kindN a.kind = 1 then encU (zz a.n) else if kindN a.kind = 2 then [if a.is then 1 else 0] else if kindN a.kind = 3 then encU a.s.size ++ sb a.s else encU a.l.length ++ encIs a.l
def encIts (l : List It) : List Nat := l.flatMap encIt
theorem encIts_append (a b : List It) : encIts (a ++ b) = encIts a ++ encIts b := by simp [encIts]
def smallB (l : List It) : Bool := decide (l.length ≤ 64) && l.all fun a => decide (a.s.size ≤ 1024) && decide (a.l.length ≤ 256)
def InvSm (H : Heap) (x : Value) (l : List It) (k : Nat) (t : Tm) (H1 : Heap) : Prop :=
  ∃ i : Nat, i + k = l.length ∧ t 0 = x ∧ t 3 = .int .i64 (i : Nat) ∧ H1 = H ∧ (l.take i).all (fun a => decide (a.s.size ≤ 1024) && decide (a.l.length ≤ 256)) = true
theorem small_T {H : Heap} {x : Value} {l : List It} (h : Items H x l) : T Try.prog 10 [x] H (.bool (smallB l)) H := by
  refine T_eq hm light10 ?_
  obtain ⟨xa, xc, hxl⟩ := h.len
  by_cases h64 : 64 < l.length
  · have : smallB l = false := by simp [smallB]; omega
    rw [hxl]; simp [L10, h64, this]
  have hn64 : l.length ≤ 64 := by omega
  rw [hxl]
  simp [L10, h64]
  rw [← hxl]
  refine loop_at (InvSm H x l) l.length ?_ ?_
  · exact ⟨0, by omega, by simp, by simp, rfl, by simp⟩
  · rintro k t H1 ⟨i, hik, t0, t3, rfl, hall⟩
    cases k with
    | zero =>
      have e0 : i = l.length := by omega
      subst e0
      rw [List.take_length] at hall
      have : smallB l = true := by simp only [smallB, hall, Bool.and_true]; simp [hn64]
      rw [hxl] at t0
      simp [L10_1, t0, t3, this]
    | succ k =>
      have hi : i < l.length := by omega
      obtain ⟨b, off, c, hx, hok, l0, l1, l2, l3, l4, l5⟩ := h.at hi
      obtain ⟨ya, yc, hy⟩ := hok.x.len
      have e3 : IntKind.i64.wrap ((i : Int) + 1) = ((i + 1 : Nat) : Int) := by rw [w64 _ (by omega)]; omega
      obtain ⟨i1, hi1⟩ : ∃ i1, i1 = i + 1 := ⟨_, rfl⟩
      rw [← hi1] at e3
      rw [hy] at l5
      have bad : ¬ (l[i].s.size ≤ 1024 ∧ l[i].l.length ≤ 256) → smallB l = false := by
        intro hb
        cases hs : smallB l with
        | false => rfl
        | true =>
          simp only [smallB, Bool.and_eq_true, List.all_eq_true] at hs
          have := hs.2 _ (List.getElem_mem hi)
          simp only [decide_eq_true_eq] at this
          exact absurd this hb
      by_cases hs : 1024 < l[i].s.size
      · have hb := bad (by omega)
        simp [L10_1, t0, t3, hx, hi, l4, l5, hs, hb]
      · by_cases hl : 256 < l[i].l.length
        · have hb := bad (by omega)
          simp [L10_1, t0, t3, hx, hi, l4, l5, hs, hl, hb]
        · simp [L10_1, t0, t3, hx, hi, l4, l5, hs, hl, e3]
          refine ⟨k, Nat.lt_succ_self k, i1, by omega, by simp [t0, hx], by simp, rfl, ?_⟩
          rw [hi1, List.take_succ_eq_append_getElem hi, List.all_append, hall]
          simp; omega
theorem small_of {l : List It} (h : smallB l = true) : l.length ≤ 64 ∧ ∀ a ∈ l, a.s.size ≤ 1024 ∧ a.l.length ≤ 256 := by
  simp only [smallB, Bool.and_eq_true, List.all_eq_true, decide_eq_true_eq] at h
  exact h
theorem encIt_len {H : Heap} {a : It} (hok : ItOk H a) (h : a.s.size ≤ 1024 ∧ a.l.length ≤ 256) : (encIt a).length ≤ 3000 := by
  have h1 := encU_len 9 a.u (by have := hok.u; omega)
  have h2 := encU_len 9 (zz a.n) (by have := zz_lt hok.n; omega)
  have h3 := encU_len 9 a.s.size (by omega)
  have h4 := encU_len 9 a.l.length (by omega)
  have h5 := encIs_len a.l hok.l
  have h6 := sb_len a.s
  unfold encIt
  split; omega
  split; omega
  split; simp
  split
  · simp only [List.length_append]; omega
  · simp only [List.length_append]; omega
theorem Items.ok {H : Heap} {x : Value} {l : List It} (h : Items H x l) : ∀ a ∈ l, ItOk H a := by
  intro a ha
  obtain ⟨i, hi, rfl⟩ := List.mem_iff_getElem.1 ha
  obtain ⟨_, _, _, _, hok, _⟩ := h.at hi
  exact hok
theorem encIts_len {H : Heap} {l : List It} (hok : ∀ a ∈ l, ItOk H a) (h : ∀ a ∈ l, a.s.size ≤ 1024 ∧ a.l.length ≤ 256) : (encIts l).length ≤ 3000 * l.length := by
  induction l with
  | nil => simp [encIts]
  | cons a l ih =>
    have h1 := ih (fun b hb => hok b (by simp [hb])) (fun b hb => h b (by simp [hb]))
    have h2 := encIt_len (hok a (by simp)) (h a (by simp))
    have e : encIts (a :: l) = encIt a ++ encIts l := by simp [encIts]
    rw [e, List.length_append, List.length_cons]; omega
end Go.Proofs.Ytpcgganldmmpoaa
