/-
  Chapter 14: all of them joined; a heap joined onto numbers; the example of the chapter.
-/
import Derived.Test.YtbocmkjcpjfecaaSeatB
namespace Go.Proofs.Ytbocmkjcpjfecaa
open Go.Ot
set_option linter.unusedSimpArgs false
set_option linter.unusedVariables false
theorem _root_.Go.Ot.Ints.ln {H : Heap} {k : IntKind} {x : Value} {xs : List Int} (h : Ints H k x xs) : ∃ a c, x = .slice a xs.length c := h.len
def foldV (op : Int) (l : List Int) : Int := l.foldl (joinV op) (zeroV op)
def InvF (H : Heap) (op : Int) (x : Value) (l : List Int) (k : Nat) (t : Tm) (H1 : Heap) : Prop :=
  ∃ i a, i + k = l.length ∧ t 0 = iv op ∧ t 5 = iv a ∧ t 10 = x ∧ t 11 = iv l.length ∧ t 12 = iv i ∧ H1 = H ∧ (l.drop i).foldl (joinV op) a = foldV op l
theorem fold_T {H : Heap} (op : Int) {x : Value} {l : List Int} (hx : Ints H .i64 x l) (hl : l.length ≤ 1000000) : T Try.prog 14 [iv op, x] H (iv (foldV op l)) H := by
  refine T_eq hm light14 ?_
  obtain ⟨xa, xc, hxl⟩ := hx.len
  simp [L14]
  refine goT_of (zero_T _) ?_
  rw [hxl]
  simp
  rw [← hxl]
  refine loop_at (InvF H op x l) l.length ?_ ?_
  · exact ⟨0, zeroV op, by omega, by simp, by simp, by simp, by simp, by simp, rfl, rfl⟩
  · rintro k t H1 ⟨i, a, hik, t0, t5, t10, t11, t12, rfl, hf⟩
    cases k with
    | zero =>
      have e0 : i = l.length := by omega
      subst e0
      simp at hf
      simp [L14_1, t5, t11, t12, hf]
    | succ k =>
      have hi : i < l.length := by omega
      obtain ⟨b, off, c, hxs, l1⟩ := hx.at hi
      have e3 : IntKind.i64.wrap ((i : Int) + 1) = ((i + 1 : Nat) : Int) := by rw [w64 _ (by omega)]; omega
      obtain ⟨i1, hi1⟩ : ∃ i1, i1 = i + 1 := ⟨_, rfl⟩
      rw [← hi1] at e3
      simp [L14_1, t0, t5, t10, t11, t12, hxs, hi, l1]
      refine goT_of (join_T _ _ _) ?_
      simp [t12, e3]
      refine ⟨k, Nat.lt_succ_self k, i1, joinV op a l[i], by omega, by simp [t0], by simp, by simp [t10, hxs], by simp [t11], by simp, rfl, ?_⟩
      rw [← hf, List.drop_eq_getElem_cons hi, hi1]; rfl
def ontoN (ops ahead now : List Int) (n : Nat) : List Int := (List.range n).map fun i => joinV (ops.getD i 0) (ahead.getD i 0) (now.getD i 0)
theorem ontoN_len (ops ahead now : List Int) (n : Nat) : (ontoN ops ahead now n).length = n := by simp [ontoN]
theorem ontoN_succ (ops ahead now : List Int) (n : Nat) : ontoN ops ahead now (n + 1) = ontoN ops ahead now n ++ [joinV (ops.getD n 0) (ahead.getD n 0) (now.getD n 0)] := by simp [ontoN, List.range_succ]
def InvO (H : Heap) (p : Nat) (xo x : Value) (ops ahead now : List Int) (k : Nat) (t : Tm) (H1 : Heap) : Prop :=
  ∃ i y, i + k = ops.length ∧ t 0 = ptr p ∧ t 1 = x ∧ t 6 = y ∧ t 20 = xo ∧ t 21 = iv ops.length ∧ t 22 = iv i ∧ Og H H1 2 (.slice none 0 0) i (ci (ontoN ops ahead now i)) y
theorem Og.olds {H H' : Heap} {ety n : Nat} {cs : List Value} {y : Value} (h : Og H H' ety (.slice none 0 0) n cs y) : ∀ b, b < H.next → H'.blk b = H.blk b := fun b hb => h.same b hb (by simp)
def OntoQ (H : Heap) (ops now ahead : List Int) (v : Value) (H' : Heap) : Prop :=
  if ahead.length = now.length then ∃ y, v = .tuple #[y, .bool true] ∧ Og H H' 2 (.slice none 0 0) ops.length (ci (ontoN ops ahead now ops.length)) y else v = .tuple #[.slice none 0 0, .bool false] ∧ H' = H
theorem onto_T {H : Heap} (hw : H.WF) {lo hi p : Nat} {ops now : List Int} {many : Int} {xo xn : Value} (h : HP H lo hi p ops now many xo xn) (hl : now.length = ops.length) (hol : ops.length ≤ 1000) (hhi : hi ≤ H.next)
    {x : Value} {ahead : List Int} (hx : Ints H .i64 x ahead) (hla : ahead.length ≤ 1000000) : ∃ v H', T Try.prog 18 [ptr p, x] H v H' ∧ OntoQ H ops now ahead v H' := by
  refine T_by hm light18 ?_
  have l0 := fun off => load_at (off := off) h.hp h.bp
  obtain ⟨ao, hao⟩ := h.oo.len
  obtain ⟨an, han⟩ := h.on.len
  obtain ⟨xa, xc, hxl⟩ := hx.len
  by_cases h1 : ahead.length = now.length
  · rw [hao, han] at l0
    rw [hxl]
    simp [L18, l0, h1]
    rw [← h1, ← hxl, ← hao]
    refine loop_at (InvO H p xo x ops ahead now) ops.length ?_ ?_
    · exact ⟨0, .slice none 0 0, by omega, by simp, by simp, by simp, by simp, by simp, by simp, by simpa [ontoN, ci] using Og.refl hw (Own.nil _ _ _)⟩
    · rintro k t H1 ⟨i, y, hik, t0, t1, t6, t20, t21, t22, a⟩
      cases k with
      | zero =>
        have e0 : i = ops.length := by omega
        subst e0
        obtain ⟨ya, hy⟩ := a.own.len
        simp [L18_1, t6, t21, t22, hy, packV]
        rw [← hy]
        simp only [OntoQ, h1, if_true]
        exact ⟨y, rfl, a⟩
      | succ k =>
        have hi' : i < ops.length := by omega
        have hi2 : i < now.length := by omega
        have hi3 : i < ahead.length := by omega
        have hf := h.frame a.base (fun b _ hb => Og.olds a b (by omega))
        obtain ⟨bo, off, ca, hbo, lo1⟩ := hf.oo.ints.at hi'
        obtain ⟨bn, offn, cn, hbn, ln1⟩ := hf.on.ints.at hi2
        obtain ⟨bx, offx, cx, hbx, lx1⟩ := (hx.keep hw a.base (Og.olds a)).at hi3
        have l1 := fun off => load_at (off := off) hf.hp hf.bp
        rw [hbn] at l1
        have e3 : IntKind.i64.wrap ((i : Int) + 1) = ((i + 1 : Nat) : Int) := by rw [w64 _ (by omega)]; omega
        obtain ⟨i1, hi1⟩ : ∃ i1, i1 = i + 1 := ⟨_, rfl⟩
        rw [← hi1] at e3
        obtain ⟨HA, ap, aA⟩ := Og.push a.wf a.own (iv (joinV ops[i] ahead[i] now[i])) (bytes := 8) (c := 0) (by omega)
        obtain ⟨y2, hy2⟩ : ∃ y2 : Addr, y2 = ⟨H1.next + 1, 0, none⟩ := ⟨_, rfl⟩
        rw [← hy2] at ap aA
        simp [L18_1, t0, t1, t6, t20, t21, t22, hbo, hi', lo1, hbx, hi3, lx1, l1, hi2, ln1]
        refine goT_of (join_T _ _ _) ?_
        simp [zerosA, ap, t22, e3]
        refine ⟨k, Nat.lt_succ_self k, i1, .slice (some y2) (i + 1) 0, by omega, by simp [t0], by simp [t1, hbx], by simp, by simp [t20, hbo], by simp [t21], by simp, ?_⟩
        show Og H HA _ _ _ _ _
        have e4 : ops.getD i 0 = ops[i] := by simp [List.getD, hi']
        have e5 : now.getD i 0 = now[i] := by simp [List.getD, hi2]
        have e6 : ahead.getD i 0 = ahead[i] := by simp [List.getD, hi3]
        rw [hi1, ontoN_succ, ci_append, e4, e5, e6]
        exact a.trans aA
  · rw [han] at l0
    rw [hxl]
    simp [L18, l0, h1, OntoQ, packV]
end Go.Proofs.Ytbocmkjcpjfecaa
