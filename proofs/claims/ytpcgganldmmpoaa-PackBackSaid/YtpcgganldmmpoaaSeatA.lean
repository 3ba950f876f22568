/-
  The writer: what its functions do, for every heap in which a writer stands.
-/
import Derived.Test.YtpcgganldmmpoaaOtY
import Derived.Test.YtpcgganldmmpoaaSeatL
namespace Go.Proofs.Ytpcgganldmmpoaa
open Go.Ot
set_option linter.unusedSimpArgs false
set_option linter.unusedVariables false
theorem hm : Try.prog.follows .mixedOrders = true := by kernel_rfl
abbrev ptr (p : Nat) : Value := .pointer (some ⟨p, 0, none⟩)
abbrev sl (b n : Nat) : Value := .slice (some ⟨b, 0, none⟩) n 0
/-- Bytes as cells. -/
def bc (l : List Nat) : List Value := l.map fun (b : Nat) => .int .u8 (b : Int)
theorem bc_append (a b : List Nat) : bc (a ++ b) = bc a ++ bc b := by simp [bc]
theorem bc_len (a : List Nat) : (bc a).length = a.length := by simp [bc]
/-- A number's bytes: seven bits a byte, the lowest first. -/
def encU (n : Nat) : List Nat := if n < 128 then [n] else (n % 128 + 128) :: encU (n / 128)
termination_by n
decreasing_by omega
theorem encU_small {n : Nat} (h : n < 128) : encU n = [n] := by rw [encU]; simp [h]
theorem encU_big {n : Nat} (h : ¬ n < 128) : encU n = (n % 128 + 128) :: encU (n / 128) := by rw [encU]; simp [h]
theorem encU_len (k : Nat) : ∀ n, n < 128 ^ (k + 1) → (encU n).length ≤ k + 1 := by
  induction k with
  | zero => intro n h; rw [encU_small (by simpa using h)]; simp
  | succ k ih =>
    intro n h
    by_cases hn : n < 128
    · rw [encU_small hn]; simp
    · rw [encU_big hn]
      simp only [List.length_cons]
      have := ih (n / 128) (by rw [Nat.div_lt_iff_lt_mul (by omega)]; rw [Nat.pow_succ] at h; exact h)
      omega
set_option maxRecDepth 4000 in
theorem or128 (c m : Nat) (hc : c = m % 256) : c ||| 128 = m % 128 + 128 := by
  have h : c < 256 := by omega
  have e : m % 128 = c % 128 := by omega
  rw [e]
  revert h
  have key : ∀ c : Fin 256, c.val ||| 128 = c.val % 128 + 128 := by decide
  intro h
  exact key ⟨c, h⟩
abbrev WR (H : Heap) (p : Nat) (bs : List Nat) (x : Value) : Prop := Wr H 73 p 5 bs.length (bc bs) x
abbrev AF (H H' : Heap) (p : Nat) (x : Value) (bs : List Nat) (x' : Value) : Prop := Aft H H' 73 p 5 x bs.length (bc bs) x'
theorem WR.push {H : Heap} (hw : H.WF) {p : Nat} {bs : List Nat} {x : Value} (h : WR H p bs x) (b : Nat) (hl : bs.length < 140737488355328) :
    ∃ HA, sAppend (H.new 5 1 [.int .u8 (b : Int)]) 5 1 1 x (.slice (some ⟨H.next, 0, none⟩) 1 0) = some (sl (H.next + 1) (bs.length + 1), HA) ∧
      (∀ w, HA.store ⟨p, 0, none⟩ w = some (HA.put p [w])) ∧ AF H (HA.put p [sl (H.next + 1) (bs.length + 1)]) p x (bs ++ [b]) (sl (H.next + 1) (bs.length + 1)) := by
  obtain ⟨HA, h1, h2, h3⟩ := Wr.push hw h (.int .u8 (b : Int)) (bytes := 1) (c := 0) (by omega)
  refine ⟨HA, h1, h2, ?_⟩
  have e : (bs ++ [b]).length = bs.length + 1 := by simp
  unfold AF
  rw [e, bc_append]
  exact h3
def InvU (H : Heap) (p : Nat) (x : Value) (all : List Nat) (k : Nat) (t : Tm) (H1 : Heap) : Prop :=
  ∃ (w : List Nat) (m : Nat) (x' : Value), m = k ∧ m < 18446744073709551616 ∧ t 0 = ptr p ∧ t 1 = .int .u64 (m : Int) ∧ w ++ encU m = all ∧ AF H H1 p x w x'
theorem uint_T {H : Heap} (hw : H.WF) {p : Nat} {bs : List Nat} {x : Value} (h : WR H p bs x) {n : Nat} (hn : n < 18446744073709551616) (hl : bs.length ≤ 100000000000000) :
    ∃ v H', T Try.prog 27 [ptr p, .int .u64 (n : Int)] H v H' ∧ ∃ x', AF H H' p x (bs ++ encU n) x' := by
  have hle : (encU n).length ≤ 10 := encU_len 9 n (by omega)
  refine T_by hm light27 ?_
  simp [L27]
  refine loop_at (InvU H p x (bs ++ encU n)) n ?_ ?_
  · exact ⟨bs, n, x, rfl, hn, by simp, by simp, rfl, Aft.refl hw h⟩
  · rintro k t H1 ⟨w, m, x', rfl, hm64, t0, t1, hpre, ha⟩
    have hpl : w.length < 140737488355328 := by
      have := congrArg List.length hpre
      simp at this; omega
    have hld := ha.wr.load
    by_cases hm' : m < 128
    · obtain ⟨HA, hap, hst, ha2⟩ := WR.push ha.wf ha.wr m hpl
      have e1 : ¬ (128 : Int) ≤ (m : Int) := by omega
      have e2 : IntKind.u8.wrap (m : Int) = (m : Int) := wu8 _ (by omega)
      simp [L27_1, t0, t1, e1, e2, hld, zerosA, hap, hst]
      rw [encU_small hm'] at hpre
      rw [← hpre]
      exact ⟨_, ha.trans ha2⟩
    · obtain ⟨HA, hap, hst, ha2⟩ := WR.push ha.wf ha.wr (m % 128 + 128) hpl
      obtain ⟨c, hc⟩ : ∃ c, c = m % 256 := ⟨_, rfl⟩
      obtain ⟨d, hd⟩ : ∃ d, d = m % 128 + 128 := ⟨_, rfl⟩
      rw [← hd] at hap ha2
      have e1 : (128 : Int) ≤ (m : Int) := by omega
      have e2 : IntKind.u8.wrap (m : Int) = (c : Int) := by rw [wu8_mod, hc]
      have e3 : sBin .or (.int .u8 (c : Int)) (.int .u8 128) = some (.int .u8 (d : Int)) := by
        rw [sBin_or]
        have := or_u8 c 128 (by omega) (by omega)
        rw [or128 c m hc, ← hd] at this
        exact congrArg (fun z => some (Value.int .u8 z)) this
      obtain ⟨q, hq⟩ : ∃ q, q = m / 128 := ⟨_, rfl⟩
      have e4 : sBin .shr (.int .u64 (m : Int)) (.int .u64 7) = some (.int .u64 (q : Int)) := by
        rw [hq]; exact shr_nat .u64 .u64 m 7 (by decide)
      simp [L27_1, t0, t1, e1, e2, e3, e4, hld, zerosA, hap, hst]
      rw [encU_big hm', ← hd, ← hq] at hpre
      exact ⟨q, by omega, w ++ [d], q, _, rfl, by omega, by simp [t0], by simp, by simpa using hpre, ha.trans ha2⟩
end Go.Proofs.Ytpcgganldmmpoaa
