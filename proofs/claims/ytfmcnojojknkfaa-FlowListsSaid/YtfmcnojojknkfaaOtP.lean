/-
  Part P: a region that draws its order: the static look, and the proof over all orders.
-/
import Derived.Test.YtfmcnojojknkfaaOtO
set_option linter.unusedVariables false
set_option linter.unusedSimpArgs false
namespace Go.Ot
open Go.RowKit

/-! ### places in a trace -/
theorem trace_len {P : Program} {Hf : Nat → Heap} {m : Nat} : ∀ {ds : List DIns} {c : Nat} {t : Tm} {vs : List Value}, TraceOk P Hf m ds c t vs → vs.length = ds.length ∧ c + hAt ds ds.length = m
  | [], c, t, [], h => ⟨rfl, by simpa [TraceOk, hAt] using h⟩
  | [], _, _, _ :: _, h => h.elim
  | _ :: _, _, _, [], h => h.elim
  | d :: rest, c, t, v :: vs, h => by
    obtain ⟨h1, h2⟩ := trace_len h.2
    refine ⟨by simp [h1], ?_⟩
    simp only [List.length_cons, hAt]; omega
theorem trace_at {P : Program} {Hf : Nat → Heap} {m : Nat} : ∀ {ds : List DIns} {c : Nat} {t : Tm} {vs : List Value}, TraceOk P Hf m ds c t vs → ∀ {j : Nat} {d : DIns}, ds[j]? = some d →
    ∃ v, vs[j]? = some v ∧ DOk P Hf m d (c + hAt ds j) (tAt ds vs t j) v
  | [], _, _, _, _, j, d, hd => by simp at hd
  | _ :: _, _, _, [], h, _, _, _ => h.elim
  | d :: rest, c, t, v :: vs, h, j, d', hd => by
    cases j with
    | zero => simp at hd; subst hd; exact ⟨v, by simp, by simpa [hAt, tAt] using h.1⟩
    | succ j =>
      simp at hd
      obtain ⟨u, hu, hok⟩ := trace_at h.2 hd
      refine ⟨u, by simpa using hu, ?_⟩
      simpa [hAt, tAt, Nat.add_assoc] using hok
theorem tAt_succ : ∀ {ds : List DIns} {vs : List Value} {t : Tm} {k : Nat} {d : DIns} {v : Value}, ds[k]? = some d → vs[k]? = some v → tAt ds vs t (k + 1) = put (tAt ds vs t k) d.ins.dst v
  | [], _, _, _, _, _, h, _ => by simp at h
  | _ :: _, [], _, _, _, _, _, h => by simp at h
  | d :: rest, v :: vs, t, k, d', v', hd, hv => by
    cases k with
    | zero => simp at hd hv; subst hd hv; cases rest <;> cases vs <;> rfl
    | succ k => simp at hd hv; exact tAt_succ (ds := rest) hd hv
theorem hAt_succ : ∀ {ds : List DIns} {k : Nat} {d : DIns}, ds[k]? = some d → hAt ds (k + 1) = hAt ds k + hv d
  | [], _, _, h => by simp at h
  | d :: rest, k, d', hd => by
    cases k with
    | zero => simp at hd; subst hd; cases rest <;> simp [hAt]
    | succ k =>
      simp at hd
      have := hAt_succ (ds := rest) hd
      simp only [hAt] at this ⊢; omega

/-! ### the static look -/
def slotOf : Operand → Option Nat | .tmp i => some i | _ => none
def rds (i : LIns) : List Nat := i.op.ops.filterMap slotOf ++ (match i.guard with | some (s, _) => [s] | none => [])
def edgesOf (o : Oper) : List Nat := (o.after.toList.filter (Region.binds .any)).map (·.on)
def maskOf (acc : List Nat) (es : List Nat) : Nat := es.foldl (fun s j => s ||| 2 ^ j ||| acc.getD j 0) 0
def masks : List Oper → List Nat → List Nat
  | [], acc => acc
  | o :: rest, acc => masks rest (acc ++ [maskOf acc (edgesOf o)])
def kindOf (op : LOp) : Kind := if isPure op then .pure else if isRead op then .read else .heavy
def isHeavy (i : LIns) : Bool := kindOf i.op == .heavy
/-- Op i comes behind op j by the text's own edges. -/
def An (ms : List Nat) (i j : Nat) : Bool := (ms.getD i 0).testBit j
def mkD (lis : List LIns) (ms : List Nat) (i : Nat) (li : LIns) : DIns :=
  { ins := li, kind := kindOf li.op,
    lo := (List.range lis.length).countP (fun j => (lis[j]?).any isHeavy && An ms i j),
    hi := (List.range lis.length).countP (fun j => (lis[j]?).any isHeavy && !An ms j i) }
def mkDs (lis : List LIns) (ms : List Nat) : List DIns := lis.zipIdx.map fun p => mkD lis ms p.2 p.1
/-- What is asked of a region that draws. -/
def drawOk (ops : List Oper) (lis : List LIns) (ms : List Nat) : Bool :=
  (List.range lis.length).all fun i => match lis[i]?, ops[i]? with
    | some li, some o =>
      (edgesOf o).all (fun e => decide (e < i)) &&
      (List.range lis.length).all (fun j => match lis[j]? with
        | some lj =>
          (i == j || lj.dst.isNone || lj.dst != li.dst) &&
          (match lj.dst with | some s => !(rds li).contains s || (decide (j < i) && An ms i j) || (decide (i < j) && An ms j i) | none => true) &&
          (!(isHeavy li && isHeavy lj && decide (j < i)) || An ms i j)
        | none => true)
    | _, _ => false
theorem masks_length : ∀ (ops : List Oper) (acc : List Nat), (masks ops acc).length = acc.length + ops.length
  | [], acc => by simp [masks]
  | o :: rest, acc => by simp [masks, masks_length rest]; omega
theorem masks_prefix : ∀ (ops : List Oper) (acc : List Nat) (i : Nat), i < acc.length → (masks ops acc).getD i 0 = acc.getD i 0
  | [], acc, i, h => rfl
  | o :: rest, acc, i, h => by
    rw [masks, masks_prefix rest _ i (by simp; omega)]
    simp [List.getD, List.getElem?_append_left h]
theorem maskOf_bit (acc : List Nat) (k : Nat) : ∀ (es : List Nat) (s0 : Nat), (es.foldl (fun s j => s ||| 2 ^ j ||| acc.getD j 0) s0).testBit k = (s0.testBit k || es.any fun j => j == k || (acc.getD j 0).testBit k)
  | [], s0 => by simp
  | e :: es, s0 => by
    rw [List.foldl_cons, maskOf_bit acc k es]
    simp only [Nat.testBit_or, Nat.testBit_two_pow, List.any_cons]
    have : decide (e = k) = (e == k) := by simp [BEq.beq]
    rw [this]
    simp [Bool.or_assoc]
/-- What the masks say: whoever is in a closed set has all that it comes behind in it. -/
theorem closed_of_mask {L : Nat → Bool} : ∀ (ops : List Oper) (acc : List Nat), (∀ i o, ops[i]? = some o → ∀ e ∈ edgesOf o, e < acc.length + i) →
    (∀ i o, ops[i]? = some o → L (acc.length + i) = true → ∀ e ∈ edgesOf o, L e = true) → (∀ i, i < acc.length → L i = true → ∀ j, (acc.getD i 0).testBit j = true → L j = true) →
    ∀ i, L i = true → ∀ j, ((masks ops acc).getD i 0).testBit j = true → L j = true
  | [], acc, _, _, h, i, hi, j, hj => by
    by_cases hlt : i < acc.length
    · exact h i hlt hi j hj
    · simp only [masks] at hj
      rw [List.getD_eq_getElem?_getD, List.getElem?_eq_none (by omega)] at hj
      simp at hj
  | o :: rest, acc, h1, h2, h3, i, hi, j, hj => by
    refine closed_of_mask rest (acc ++ [maskOf acc (edgesOf o)]) ?_ ?_ ?_ i hi j hj
    · intro i o' ho e he
      have := h1 (i + 1) o' (by simpa using ho) e he
      simp; omega
    · intro i o' ho hL e he
      refine h2 (i + 1) o' (by simpa using ho) ?_ e he
      simp at hL
      rw [show acc.length + (i + 1) = acc.length + 1 + i by omega]; exact hL
    · intro i hlt hL j hj
      by_cases hi2 : i < acc.length
      · refine h3 i hi2 hL j ?_
        rw [List.getD_eq_getElem?_getD, List.getElem?_append_left hi2] at hj
        rw [List.getD_eq_getElem?_getD]; exact hj
      · have he : i = acc.length := by simp at hlt; omega
        subst he
        rw [List.getD_eq_getElem?_getD] at hj
        simp only [List.getElem?_concat_length, Option.getD_some] at hj
        unfold maskOf at hj
        rw [maskOf_bit] at hj
        simp only [Nat.zero_testBit, Bool.false_or, List.any_eq_true, Bool.or_eq_true, beq_iff_eq] at hj
        obtain ⟨e, he, hj⟩ := hj
        have hLe := h2 0 o (by simp) (by simpa using hL) e he
        rcases hj with rfl | hj
        · exact hLe
        · have hlt2 := h1 0 o (by simp) e he
          exact h3 e (by simpa using hlt2) hLe j hj
end Go.Ot
