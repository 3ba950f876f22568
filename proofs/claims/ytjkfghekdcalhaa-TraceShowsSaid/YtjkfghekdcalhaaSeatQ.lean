/-
  Chapter 27: a trace's text, by the document; the law.
-/
import Derived.Test.YtjkfghekdcalhaaSeatP
namespace Go.Proofs.Ytjkfghekdcalhaa
open Go.Ot
set_option linter.unusedSimpArgs false
set_option linter.unusedVariables false
def InvR (H : Heap) (t0 : Tm) (y : Value) (l : List Int) (out : List Nat) (k : Nat) (t : Tm) (H1 : Heap) : Prop :=
  ∃ i, i + k = l.length ∧ t 0 = t0 0 ∧ t 3 = t0 3 ∧ t 5 = t0 5 ∧ t 8 = y ∧ t 9 = iv i ∧ t 4 = .string (strB (out ++ numsB (l.take i))) ∧ H1 = H
theorem nums15_loop {H : Heap} (hw : H.WF) {y : Value} {l : List Int} {out : List Nat} (hy : Ints H .i64 y l) (hl : l.length ≤ 4) (hf : ∀ n ∈ l, fit n) (hout : out.length ≤ 1000000)
    {Q : Exit → Tm → Heap → Prop} {t : Tm} (h8 : t 8 = y) (h9 : t 9 = iv 0) (h4 : t 4 = .string (strB out))
    (hQ : ∀ t1, t1 0 = t 0 → t1 3 = t 3 → t1 5 = t 5 → t1 4 = .string (strB (out ++ numsB l)) → Q (.exit 3) t1 (rdy H)) : wpA Try.prog (.loop L15_1) Q t (rdy H) := by
  refine loop_at (InvR H t y l out) l.length ?_ ?_
  · exact ⟨0, by omega, rfl, rfl, rfl, h8, h9, by simpa [numsB] using h4, rfl⟩
  · rintro k t1 H1 ⟨i, hi, t10, t13, t15, t18, t19, t14, rfl⟩
    obtain ⟨a, c, hyl⟩ := hy.len
    cases k with
    | zero =>
      have e : ¬ ((i : Int) < l.length) := by omega
      have e2 : i = l.length := by omega
      rw [e2, List.take_length] at t14
      have hq := fun (t9 : Tm) (h0 : t9 0 = t1 0) (h3 : t9 3 = t1 3) (h5 : t9 5 = t1 5) (h4 : t9 4 = t1 4) => hQ t9 (h0.trans t10) (h3.trans t13) (h5.trans t15) (h4.trans t14)
      simp [L15_1, t18, t19, hyl, e]
      exact hq _ (by simp) (by simp) (by simp) (by simp)
    | succ j =>
      have hil : i < l.length := by omega
      have e : ((i : Int) < l.length) := by omega
      obtain ⟨b, off, c2, hyb, hld⟩ := hy.at hil
      have hfit := hf l[i] (List.getElem_mem hil)
      have tx := refTextK hw hfit
      have hdl := decI_len l[i]
      have hgl := flat_len (l.take i)
      have hgl2 : (l.take i).length ≤ 4 := by simp; omega
      have c1 : sBin .add (.string ⟨#[32]⟩) (.string (strB (decI l[i]))) = some (.string (strB (32 :: decI l[i]))) := strB_add [32] (decI l[i]) (by simp; omega)
      have c2' : sBin .add (.string (strB (out ++ numsB (l.take i)))) (.string (strB (32 :: decI l[i]))) = some (.string (strB (out ++ numsB (l.take (i + 1))))) := by
        rw [strB_add _ _ (by simp only [List.length_append, numsB, List.length_cons]; omega), numsB_take l i hil, List.append_assoc]
      have e4 : IntKind.i64.wrap ((i : Int) + 1) = ((i + 1 : Nat) : Int) := by rw [w64 _ (by omega)]; omega
      obtain ⟨iN, hiN⟩ : ∃ n : Nat, n = i + 1 := ⟨_, rfl⟩
      rw [← hiN] at e4 c2'
      rw [hyb] at t18
      simp [L15_1, t18, t19, e, hld]
      refine goT_of tx ?_
      simp [c1, t14, c2', t19, e4]
      exact ⟨j, by omega, iN, by omega, by simp [t10], by simp [t13], by simp [t15], by simp [t18, hyb], by simp, by simp, rfl⟩
def namesV : List Value := [.string (strB [110, 111, 110, 101]), .string (strB [98, 101, 103, 105, 110]), .string (strB [114, 101, 97, 100]), .string (strB [119, 114, 105, 116, 101]), .string (strB [101, 109, 105, 116]), .string (strB [105, 110, 116, 111]), .string (strB [97, 98, 111, 114, 116]), .string (strB [99, 111, 109, 109, 105, 116]), .string (strB [102, 97, 117, 108, 116])]
/-- Memory stands: from `H` on only new blocks. -/
structure On (H H1 : Heap) : Prop where
  wf : H1.WF
  base : H1.base = H.base
  next : H.next ≤ H1.next
  keep : ∀ b, b < H.next → H1.blk b = H.blk b
theorem On.refl {H : Heap} (h : H.WF) : On H H := ⟨h, rfl, Nat.le_refl _, fun _ _ => rfl⟩
theorem On.new {H H1 : Heap} (h : On H H1) (ty sz : Nat) (cs : List Value) : On H (H1.new ty sz cs) :=
  ⟨WF_new h.wf _ _ _, by simp [h.base], by have := h.next; simp; omega, fun b hb => by
    have h1 := h.next
    have : b ≠ H1.next := by omega
    simp [this, h.keep b hb]⟩
def InvF (H : Heap) (y : Value) (l : List Ev) (k : Nat) (t : Tm) (H1 : Heap) : Prop :=
  ∃ i, i + k = l.length ∧ t 0 = y ∧ t 3 = .slice (some ⟨H.next, 0, none⟩) 9 0 ∧ t 5 = iv i ∧ t 4 = .string (strB (evB (l.take i))) ∧ On (H.new 9 1 namesV) H1
theorem text15_T {H : Heap} (hw : H.WF) {y : Value} {l : List Ev} (hy : Rws H 6 y (l.map Ev.cells)) (hl : l.length ≤ 300) (hok : ∀ x ∈ l, x.ok) : T Try.prog 15 [y] H (.string (strB (evB l))) H := by
  have : ∃ v H', T Try.prog 15 [y] H v H' ∧ v = .string (strB (evB l)) ∧ ∀ b, b < H.next → H'.blk b = H.blk b := by
    refine T_by hm light15 ?_
    have hnB := hw.next_ge
    obtain ⟨a, c, hyl⟩ := hy.len
    rw [List.length_map] at hyl
    have hz9 : zerosA [Value.string ByteArray.empty] 9 = List.replicate 9 (.string ByteArray.empty) := rfl
    simp [L15, hz9, List.replicate]
    refine loop_at (InvF H y l) l.length ?_ ?_
    · exact ⟨0, by omega, by simp, by simp, by simp, by simp [evB, strB_nil], On.refl (WF_new hw _ _ _)⟩
    · rintro k t H1 ⟨i, hi, t0, t3, t5, t4, on⟩
      have hkeepH : ∀ b, b < H.next → H1.blk b = H.blk b := fun b hb => by
        rw [on.keep b (by simp; omega)]
        have : b ≠ H.next := by omega
        simp [this]
      have hbaseH : H1.base = H.base := by rw [on.base]; simp
      cases k with
      | zero =>
        have e : ¬ ((i : Int) < l.length) := by omega
        have e2 : i = l.length := by omega
        rw [e2, List.take_length] at t4
        simp [L15_2, t0, hyl, t5, e, t4]
        exact hkeepH
      | succ j =>
        have hil : i < l.length := by omega
        have e : ((i : Int) < l.length) := by omega
        have hy2 := hy.keep hw hbaseH hkeepH
        obtain ⟨b, off, c2, hyb, hlen, hld, -⟩ := hy2.at (i := i) (by simpa using hil)
        rw [List.getElem_map] at hlen hld
        obtain ⟨x, hx⟩ : ∃ x, x = l[i] := ⟨_, rfl⟩
        rw [← hx] at hlen hld
        have hxo : x.ok := by rw [hx]; exact hok _ (List.getElem_mem hil)
        obtain ⟨HE, hHE⟩ : ∃ HE, HE = H1.new 58 6 x.cells := ⟨_, rfl⟩
        have hstA := new_storeA on.wf 58 6 [iv 0, iv 0, iv 0, iv 0, iv 0, iv 0] x.cells rfl hlen (by decide)
        rw [← hHE] at hstA
        have hwE : HE.WF := by rw [hHE]; exact WF_new on.wf _ _ _
        have onE : On (H.new 9 1 namesV) HE := by rw [hHE]; exact on.new _ _ _
        have ld : ∀ off, HE.load ⟨H1.next, off, none⟩ = x.cells[off]? := fun off => by rw [hHE]; exact new_load on.wf 58 6 x.cells off
        have l0 : HE.load ⟨H1.next, 0, none⟩ = some (iv x.k) := ld 0
        have l1 : HE.load ⟨H1.next, 1, none⟩ = some (iv x.a) := ld 1
        have l2 : HE.load ⟨H1.next, 2, none⟩ = some (iv x.b) := ld 2
        have l3 : HE.load ⟨H1.next, 3, none⟩ = some (iv x.c) := ld 3
        have l4 : HE.load ⟨H1.next, 4, none⟩ = some (iv x.d) := ld 4
        have l5 : HE.load ⟨H1.next, 5, none⟩ = some (iv x.e) := ld 5
        have nm : ∀ q, HE.load ⟨H.next, q, none⟩ = namesV[q]? := fun q => by
          rw [load_at (k := ⟨9, 1, namesV⟩) (by rw [B_eq onE.base]; simpa using hnB) (by rw [onE.keep _ (by simp)]; simp)]
        have z1 : zerosA [iv 0] 1 = [iv 0] := rfl
        have z2 : zerosA [iv 0] 2 = [iv 0, iv 0] := rfl
        have z3 : zerosA [iv 0] 3 = [iv 0, iv 0, iv 0] := rfl
        have z4 : zerosA [iv 0] 4 = [iv 0, iv 0, iv 0, iv 0] := rfl
        have hnE := hwE.next_ge
        have e4 : IntKind.i64.wrap ((i : Int) + 1) = ((i + 1 : Nat) : Int) := by rw [w64 _ (by omega)]; omega
        have hev : evB (l.take i) ++ nameB x.k ++ numsB (numsOf x) ++ [10] = evB (l.take (i + 1)) := by
          rw [evB_take l i hil, ← hx]; simp [lineB, numsB]
        obtain ⟨iN, hiN⟩ : ∃ n : Nat, n = i + 1 := ⟨_, rfl⟩
        rw [← hiN] at e4 hev
        have hel := evB_len (l.take i)
        have hel2 : (l.take i).length ≤ 300 := by simp; omega
        have hnl := nameB_len x.k
        have hnums := numsOf_len x
        have hfl := flat_len (numsOf x)
        have cn : sBin .add (.string (strB (evB (l.take i)))) (.string (strB (nameB x.k))) = some (.string (strB (evB (l.take i) ++ nameB x.k))) := strB_add _ _ (by omega)
        have ce : sBin .add (.string (strB (evB (l.take i) ++ nameB x.k ++ numsB (numsOf x)))) (.string ⟨#[10]⟩) = some (.string (strB (evB (l.take iN)))) := by
          rw [← hev]
          exact strB_add _ [10] (by simp only [List.length_append, numsB, List.length_singleton]; omega)
        simp only [List.append_assoc] at ce
        have ldl : ∀ l', l' = numsOf x → ∀ m, l'.length = m → Ints (HE.new 2 1 (l'.map iv)) .i64 (.slice (some ⟨HE.next, 0, none⟩) m 0) (numsOf x) := fun l' hl' m hm9 => by
          rw [← hl', ← hm9]
          exact (Own.mk (H := HE.new 2 1 (l'.map iv)) (ety := 2) (sz := 1) (b := HE.next) (cells := l'.map iv) (by simp) (by simpa using hnE) (by simp)).ints
        subst hyb
        by_cases h1 : x.k = 1
        · have hnm : nameB x.k = [98, 101, 103, 105, 110] := by rw [h1]; rfl
          have nmk : HE.load ⟨H.next, 1, none⟩ = some (.string (strB (nameB x.k))) := by rw [nm, hnm]; rfl
          have hnu : numsOf x = [x.a, x.b] := by simp [numsOf, h1]
          rw [h1] at l0
          simp [L15_2, t0, t5, e, hld, hstA, l0, l1, l2, l3, l4, l5, z1, z2, z3, z4, t3, nmk, t4, cn]
          refine nums15_loop (WF_new hwE _ _ _) (ldl [x.a, x.b] hnu.symm 2 rfl) hnums (nums_fit hxo) (out := evB (l.take i) ++ nameB x.k) (by simp; omega) (by simp) (by simp) (by simp) ?_
          intro t1 u0 u3 u5 u4
          simp at u0 u3 u5
          simp [u4, ce, u5, t5, e4]
          exact ⟨j, by omega, iN, by omega, by simp [u0, t0], by simp [u3, t3], by simp, by simp, onE.new _ _ _⟩
        by_cases h2 : x.k = 2
        · have hnm : nameB x.k = [114, 101, 97, 100] := by rw [h2]; rfl
          have nmk : HE.load ⟨H.next, 2, none⟩ = some (.string (strB (nameB x.k))) := by rw [nm, hnm]; rfl
          have hnu : numsOf x = [x.b, x.c, x.d, x.e] := by simp [numsOf, h2]
          rw [h2] at l0
          simp [L15_2, t0, t5, e, hld, hstA, l0, l1, l2, l3, l4, l5, z1, z2, z3, z4, t3, nmk, t4, cn]
          refine nums15_loop (WF_new hwE _ _ _) (ldl [x.b, x.c, x.d, x.e] hnu.symm 4 rfl) hnums (nums_fit hxo) (out := evB (l.take i) ++ nameB x.k) (by simp; omega) (by simp) (by simp) (by simp) ?_
          intro t1 u0 u3 u5 u4
          simp at u0 u3 u5
          simp [u4, ce, u5, t5, e4]
          exact ⟨j, by omega, iN, by omega, by simp [u0, t0], by simp [u3, t3], by simp, by simp, onE.new _ _ _⟩
        by_cases h3 : x.k = 3
        · have hnm : nameB x.k = [119, 114, 105, 116, 101] := by rw [h3]; rfl
          have nmk : HE.load ⟨H.next, 3, none⟩ = some (.string (strB (nameB x.k))) := by rw [nm, hnm]; rfl
          have hnu : numsOf x = [x.b, x.c, x.d] := by simp [numsOf, h3]
          rw [h3] at l0
          simp [L15_2, t0, t5, e, hld, hstA, l0, l1, l2, l3, l4, l5, z1, z2, z3, z4, t3, nmk, t4, cn]
          refine nums15_loop (WF_new hwE _ _ _) (ldl [x.b, x.c, x.d] hnu.symm 3 rfl) hnums (nums_fit hxo) (out := evB (l.take i) ++ nameB x.k) (by simp; omega) (by simp) (by simp) (by simp) ?_
          intro t1 u0 u3 u5 u4
          simp at u0 u3 u5
          simp [u4, ce, u5, t5, e4]
          exact ⟨j, by omega, iN, by omega, by simp [u0, t0], by simp [u3, t3], by simp, by simp, onE.new _ _ _⟩
        by_cases h4 : x.k = 4
        · have hnm : nameB x.k = [101, 109, 105, 116] := by rw [h4]; rfl
          have nmk : HE.load ⟨H.next, 4, none⟩ = some (.string (strB (nameB x.k))) := by rw [nm, hnm]; rfl
          have hnu : numsOf x = [x.b, x.d] := by simp [numsOf, h4]
          rw [h4] at l0
          simp [L15_2, t0, t5, e, hld, hstA, l0, l1, l2, l3, l4, l5, z1, z2, z3, z4, t3, nmk, t4, cn]
          refine nums15_loop (WF_new hwE _ _ _) (ldl [x.b, x.d] hnu.symm 2 rfl) hnums (nums_fit hxo) (out := evB (l.take i) ++ nameB x.k) (by simp; omega) (by simp) (by simp) (by simp) ?_
          intro t1 u0 u3 u5 u4
          simp at u0 u3 u5
          simp [u4, ce, u5, t5, e4]
          exact ⟨j, by omega, iN, by omega, by simp [u0, t0], by simp [u3, t3], by simp, by simp, onE.new _ _ _⟩
        by_cases h5 : x.k = 5
        · have hnm : nameB x.k = [105, 110, 116, 111] := by rw [h5]; rfl
          have nmk : HE.load ⟨H.next, 5, none⟩ = some (.string (strB (nameB x.k))) := by rw [nm, hnm]; rfl
          have hnu : numsOf x = [x.b, x.c, x.d] := by simp [numsOf, h5]
          rw [h5] at l0
          simp [L15_2, t0, t5, e, hld, hstA, l0, l1, l2, l3, l4, l5, z1, z2, z3, z4, t3, nmk, t4, cn]
          refine nums15_loop (WF_new hwE _ _ _) (ldl [x.b, x.c, x.d] hnu.symm 3 rfl) hnums (nums_fit hxo) (out := evB (l.take i) ++ nameB x.k) (by simp; omega) (by simp) (by simp) (by simp) ?_
          intro t1 u0 u3 u5 u4
          simp at u0 u3 u5
          simp [u4, ce, u5, t5, e4]
          exact ⟨j, by omega, iN, by omega, by simp [u0, t0], by simp [u3, t3], by simp, by simp, onE.new _ _ _⟩
        by_cases h6 : x.k = 6
        · have hnm : nameB x.k = [97, 98, 111, 114, 116] := by rw [h6]; rfl
          have nmk : HE.load ⟨H.next, 6, none⟩ = some (.string (strB (nameB x.k))) := by rw [nm, hnm]; rfl
          have hnu : numsOf x = [x.b] := by simp [numsOf, h6]
          rw [h6] at l0
          simp [L15_2, t0, t5, e, hld, hstA, l0, l1, l2, l3, l4, l5, z1, z2, z3, z4, t3, nmk, t4, cn]
          refine nums15_loop (WF_new hwE _ _ _) (ldl [x.b] hnu.symm 1 rfl) hnums (nums_fit hxo) (out := evB (l.take i) ++ nameB x.k) (by simp; omega) (by simp) (by simp) (by simp) ?_
          intro t1 u0 u3 u5 u4
          simp at u0 u3 u5
          simp [u4, ce, u5, t5, e4]
          exact ⟨j, by omega, iN, by omega, by simp [u0, t0], by simp [u3, t3], by simp, by simp, onE.new _ _ _⟩
        by_cases h7 : x.k = 7
        · have hnm : nameB x.k = [99, 111, 109, 109, 105, 116] := by rw [h7]; rfl
          have nmk : HE.load ⟨H.next, 7, none⟩ = some (.string (strB (nameB x.k))) := by rw [nm, hnm]; rfl
          have hnu : numsOf x = [x.b] := by simp [numsOf, h7]
          rw [h7] at l0
          simp [L15_2, t0, t5, e, hld, hstA, l0, l1, l2, l3, l4, l5, z1, z2, z3, z4, t3, nmk, t4, cn]
          refine nums15_loop (WF_new hwE _ _ _) (ldl [x.b] hnu.symm 1 rfl) hnums (nums_fit hxo) (out := evB (l.take i) ++ nameB x.k) (by simp; omega) (by simp) (by simp) (by simp) ?_
          intro t1 u0 u3 u5 u4
          simp at u0 u3 u5
          simp [u4, ce, u5, t5, e4]
          exact ⟨j, by omega, iN, by omega, by simp [u0, t0], by simp [u3, t3], by simp, by simp, onE.new _ _ _⟩
        by_cases h8 : x.k = 8
        · have hnm : nameB x.k = [102, 97, 117, 108, 116] := by rw [h8]; rfl
          have nmk : HE.load ⟨H.next, 8, none⟩ = some (.string (strB (nameB x.k))) := by rw [nm, hnm]; rfl
          have hnu : numsOf x = [x.b, x.c, x.d] := by simp [numsOf, h8]
          rw [h8] at l0
          simp [L15_2, t0, t5, e, hld, hstA, l0, l1, l2, l3, l4, l5, z1, z2, z3, z4, t3, nmk, t4, cn]
          refine nums15_loop (WF_new hwE _ _ _) (ldl [x.b, x.c, x.d] hnu.symm 3 rfl) hnums (nums_fit hxo) (out := evB (l.take i) ++ nameB x.k) (by simp; omega) (by simp) (by simp) (by simp) ?_
          intro t1 u0 u3 u5 u4
          simp at u0 u3 u5
          simp [u4, ce, u5, t5, e4]
          exact ⟨j, by omega, iN, by omega, by simp [u0, t0], by simp [u3, t3], by simp, by simp, onE.new _ _ _⟩
        have hnm : nameB x.k = [110, 111, 110, 101] := by simp [nameB, h1, h2, h3, h4, h5, h6, h7, h8]
        have nmk : HE.load ⟨H.next, 0, none⟩ = some (.string (strB (nameB x.k))) := by rw [nm, hnm]; rfl
        have hnu : numsOf x = [] := by simp [numsOf, h1, h2, h3, h4, h5, h6, h7, h8]
        have hy0 : Ints HE .i64 (.slice none 0 0) (numsOf x) := .inl ⟨rfl, hnu⟩
        by_cases g1 : 1 ≤ x.k
        · have g2 : ¬ x.k ≤ 8 := by omega
          simp [L15_2, t0, t5, e, hld, hstA, l0, l1, l2, l3, l4, l5, z1, z2, z3, z4, t3, nmk, t4, cn, g1, g2]
          refine nums15_loop hwE hy0 hnums (nums_fit hxo) (out := evB (l.take i) ++ nameB x.k) (by simp; omega) (by simp) (by simp) (by simp) ?_
          intro t1 u0 u3 u5 u4
          simp at u0 u3 u5
          simp [u4, ce, u5, t5, e4]
          exact ⟨j, by omega, iN, by omega, by simp [u0, t0], by simp [u3, t3], by simp, by simp, onE⟩
        · simp [L15_2, t0, t5, e, hld, hstA, l0, l1, l2, l3, l4, l5, z1, z2, z3, z4, t3, nmk, t4, cn, g1]
          refine nums15_loop hwE hy0 hnums (nums_fit hxo) (out := evB (l.take i) ++ nameB x.k) (by simp; omega) (by simp) (by simp) (by simp) ?_
          intro t1 u0 u3 u5 u4
          simp at u0 u3 u5
          simp [u4, ce, u5, t5, e4]
          exact ⟨j, by omega, iN, by omega, by simp [u0, t0], by simp [u3, t3], by simp, by simp, onE⟩
  obtain ⟨v, H', h, rfl, hk⟩ := this
  exact T_forget h hk rfl
theorem shows_T {H : Heap} (hw : H.WF) {y : Value} {l : List Ev} (hy : Rws H 6 y (l.map Ev.cells)) (hok : ∀ x ∈ l, x.ok) : T Try.prog 5 [y] H (.bool true) H := by
  refine T_eq hm light5 ?_
  obtain ⟨a, c, hyl⟩ := hy.len
  rw [List.length_map] at hyl
  by_cases h : l.length ≤ 300
  · have h1 : ¬ (300 : Int) < (l.length : Int) := by omega
    have ta := text14_T hw hy h hok
    have tb := text15_T hw hy h hok
    have he : sBin .eql (.string (strB (evB l))) (.string (strB (evB l))) = some (.bool true) := by rw [str_eql]; simp
    rw [hyl] at ta tb
    simp [L5, hyl, h1]
    refine goT_of ta ?_
    simp
    refine goT_of tb ?_
    simp [he]
    refine goT_of (alive_T H) ?_
    simp
  · have h1 : (300 : Int) < (l.length : Int) := by omega
    simp [L5, hyl, h1]
end Go.Proofs.Ytjkfghekdcalhaa
