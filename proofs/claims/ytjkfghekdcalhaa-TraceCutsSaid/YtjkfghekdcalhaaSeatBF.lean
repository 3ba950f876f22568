/-
  Chapter 27: numbers that are joined (carried over from chapter 14).
-/
import Derived.Test.YtjkfghekdcalhaaSeatBD
namespace Go.Proofs.Ytjkfghekdcalhaa.R14
open Go.Ot
set_option linter.unusedSimpArgs false
set_option linter.unusedVariables false
def bitsI (n : Int) : BitVec 64 := BitVec.ofInt 64 n
def joinV (op a b : Int) : Int :=
  if op = 1 then IntKind.i64.wrap (a + b) else if op = 2 then IntKind.i64.wrap (a * b) else if op = 3 then (if b < a then b else a) else if op = 4 then (if a < b then b else a)
  else if op = 5 then IntKind.i64.wrap (bitsI a &&& bitsI b).toNat else if op = 6 then IntKind.i64.wrap (bitsI a ||| bitsI b).toNat else if op = 7 then IntKind.i64.wrap (bitsI a ^^^ bitsI b).toNat else 0
theorem join_T {H : Heap} (op a b : Int) : T Try.prog 51 [iv op, iv a, iv b] H (iv (joinV op a b)) H := by
  refine T_eq hm light51 ?_
  by_cases h1 : op = 1
  · subst h1; simp [L51, joinV]
  by_cases h2 : op = 2
  · subst h2; simp [L51, joinV]
  by_cases h3 : op = 3
  · subst h3; simp [L51, joinV, sMM, sMinMax]
  by_cases h4 : op = 4
  · subst h4; simp [L51, joinV, sMM, sMinMax]
  by_cases h5 : op = 5
  · subst h5; simp [L51, joinV, sBin_and]; rfl
  by_cases h6 : op = 6
  · subst h6; simp [L51, joinV, sBin_or]; rfl
  by_cases h7 : op = 7
  · subst h7; simp [L51, joinV, sBin_xor]; rfl
  simp [L51, joinV, h1, h2, h3, h4, h5, h6, h7]
/-- Such a number there is. -/
def may (ops : List Int) (c : Int) : Bool := decide (0 ≤ c) && decide (c < ops.length)
def addN (ops now : List Int) (c n : Int) : List Int := if may ops c then now.set c.toNat (joinV (ops.getD c.toNat 0) (now.getD c.toNat 0) n) else now
theorem add_T {H : Heap} (hw : H.WF) {lo hi p : Nat} {ops now : List Int} {many : Int} {xo xn : Value} (h : HP H lo hi p ops now many xo xn) (hl : now.length = ops.length) (c n : Int) (hm64 : okI many ∧ many < 9223372036854775807) (hol : ops.length ≤ 1000) :
    ∃ v H', T Try.prog 34 [ptr p, iv c, iv n] H v H' ∧ v = .bool (may ops c) ∧ H'.WF ∧ H'.base = H.base ∧ H'.next = H.next ∧ (∀ b, (b < lo ∨ hi ≤ b) → H'.blk b = H.blk b) ∧
      HP H' lo hi p ops (addN ops now c n) (if may ops c then many + 1 else many) xo xn := by
  refine T_by hm light34 ?_
  have l0 := fun off => load_at (off := off) h.hp h.bp
  obtain ⟨ao, hao⟩ := h.oo.len
  obtain ⟨an, han⟩ := h.on.len
  by_cases h1 : c < 0
  · have hmay : may ops c = false := by simp [may]; omega
    simp [L34, h1, hmay, addN]
    exact ⟨hw, h⟩
  by_cases h2 : (ops.length : Int) ≤ c
  · have hmay : may ops c = false := by simp [may]; omega
    rw [hao] at l0
    simp [L34, h1, l0, h2, hmay, addN]
    exact ⟨hw, hao ▸ h⟩
  have hmay : may ops c = true := by simp [may]; omega
  obtain ⟨i, rfl⟩ : ∃ i : Nat, c = i := ⟨c.toNat, by omega⟩
  have hio : i < ops.length := by omega
  have hi2 : i < now.length := by omega
  obtain ⟨bo, off, ca, hbo, lo1⟩ := h.oo.ints.at hio
  obtain ⟨bn, offn, cn, hbn, ln1⟩ := h.on.ints.at hi2
  have hown := h.on
  rcases hown.2 with ⟨_, h0⟩ | ⟨bn2, rest, hbn2, hB, hk⟩
  · omega
  rw [hbn2] at hbn
  simp only [Value.slice.injEq, Option.some.injEq, Addr.mk.injEq, and_true, true_and] at hbn
  obtain ⟨⟨rfl, rfl⟩, rfl⟩ := hbn
  obtain ⟨z, hz⟩ : ∃ z, z = joinV ops[i] now[i] n := ⟨_, rfl⟩
  have pb : p ≠ bn2 := fun e => h.pn (by rw [hbn2, e]; rfl)
  obtain ⟨H2, hH2⟩ : ∃ H2, H2 = H.put bn2 (ci (now.set i z) ++ rest) := ⟨_, rfl⟩
  have hst : H.store ⟨bn2, i, none⟩ (iv z) = some H2 := by
    rw [store_own hB hk, if_pos (by simp [ci]; omega), hH2]
    congr 2
    rw [List.set_append_left _ _ (by simpa [ci] using hi2)]
    simp [ci, List.map_set]
  have b2 : H2.base = H.base := by rw [hH2]; rfl
  have bp2 : H2.blk p = some ⟨134, 3, [xo, xn, iv many]⟩ := by rw [hH2]; simp [pb, h.bp]
  have hp2 : ¬ p < H2.B := by rw [B_eq b2]; exact h.hp
  have l2 := fun off => load_at (off := off) hp2 bp2
  have s2 := fun off v => store_own (off := off) (v := v) hp2 bp2
  have e3 : IntKind.i64.wrap (many + 1) = many + 1 := w64 _ (by have := hm64.1.1; have := hm64.2; omega)
  have e4 : ops.getD i 0 = ops[i] := by simp [List.getD, hio]
  have e5 : now.getD i 0 = now[i] := by simp [List.getD, hi2]
  have T1 := join_T (H := H) ops[i] now[i] n
  rw [← hz] at T1
  have fin : HP (H2.put p [xo, xn, iv (many + 1)]) lo hi p ops (addN ops now i n) (many + 1) xo xn := by
    have ea : addN ops now i n = now.set i z := by simp only [addN, hmay, if_true, Int.toNat_natCast, e4, e5, hz]
    rw [ea]
    refine ⟨by simpa using hp2, by simp [bp2], ?_, ?_, h.po, h.pn, h.xx, h.rp, h.ro, h.rn⟩
    · refine h.oo.keep (by simp [B_eq b2]) (fun b hb => ?_)
      have m1 : b ≠ p := fun e => h.po (by rw [← e]; exact hb)
      have m2 : b ≠ bn2 := fun e => h.xx b hb (by rw [hbn2, e]; rfl)
      rw [hH2]; simp [m1, m2]
    · refine ⟨by simp [ci], .inr ⟨bn2, rest, by simpa using hbn2, by simpa [B_eq b2] using hB, ?_⟩⟩
      rw [hH2]; simp [pb.symm, hk]
  have sm : ∀ b, (b < lo ∨ hi ≤ b) → (H2.put p [xo, xn, iv (many + 1)]).blk b = H.blk b := by
    intro b hb
    have := h.rp
    have := h.rn bn2 (by rw [hbn2]; rfl)
    have m1 : b ≠ p := by omega
    have m2 : b ≠ bn2 := by omega
    rw [hH2]; simp [m1, m2]
  rw [hbo] at l0 l2 bp2
  rw [hbn2] at l0 l2 bp2
  have lo1' : H.load ⟨bo, off + i, none⟩ = some (iv ops[i]) := lo1
  have ln1' : H.load ⟨bn2, i, none⟩ = some (iv now[i]) := by simpa using ln1
  simp [L34, l0, h1, h2, hio, hi2, lo1', ln1']
  refine goT_of T1 ?_
  simp [l0, hi2, hst, l2, s2, e3, hmay]
  refine ⟨WF_put (by rw [hH2]; exact WF_put hw _ _) _ _, b2, by rw [hH2]; rfl, fun b hb => ?_, fin⟩
  have := sm b hb
  simpa using this
def ontoN (ops ahead now : List Int) (n : Nat) : List Int := (List.range n).map fun i => joinV (ops.getD i 0) (ahead.getD i 0) (now.getD i 0)
theorem ontoN_len (ops ahead now : List Int) (n : Nat) : (ontoN ops ahead now n).length = n := by simp [ontoN]
theorem ontoN_succ (ops ahead now : List Int) (n : Nat) : ontoN ops ahead now (n + 1) = ontoN ops ahead now n ++ [joinV (ops.getD n 0) (ahead.getD n 0) (now.getD n 0)] := by simp [ontoN, List.range_succ]
def InvO (H : Heap) (p : Nat) (xo x : Value) (ops ahead now : List Int) (k : Nat) (t : Tm) (H1 : Heap) : Prop :=
  ∃ i y, i + k = ops.length ∧ t 0 = ptr p ∧ t 1 = x ∧ t 6 = y ∧ t 20 = xo ∧ t 21 = iv ops.length ∧ t 22 = iv i ∧ Og H H1 2 (.slice none 0 0) i (ci (ontoN ops ahead now i)) y
theorem Og.olds {H H' : Heap} {ety n : Nat} {cs : List Value} {y : Value} (h : Og H H' ety (.slice none 0 0) n cs y) : ∀ b, b < H.next → H'.blk b = H.blk b := fun b hb => h.same b hb (by simp)
def OntoQ (H : Heap) (ops now ahead : List Int) (v : Value) (H' : Heap) : Prop :=
  if ahead.length = now.length then ∃ y, v = .tuple #[y, .bool true] ∧ Og H H' 2 (.slice none 0 0) ops.length (ci (ontoN ops ahead now ops.length)) y else v = .tuple #[.slice none 0 0, .bool false] ∧ H' = H
theorem onto_T {H : Heap} (hw : H.WF) {lo hi p : Nat} {ops now : List Int} {many : Int} {xo xn : Value} (h : HP H lo hi p ops now many xo xn) (hl : now.length = ops.length) (hol : ops.length ≤ 1000) (hhi : hi ≤ H.next)
    {x : Value} {ahead : List Int} (hx : Ints H .i64 x ahead) (hla : ahead.length ≤ 1000000) : ∃ v H', T Try.prog 35 [ptr p, x] H v H' ∧ OntoQ H ops now ahead v H' := by
  refine T_by hm light35 ?_
  have l0 := fun off => load_at (off := off) h.hp h.bp
  obtain ⟨ao, hao⟩ := h.oo.len
  obtain ⟨an, han⟩ := h.on.len
  obtain ⟨xa, xc, hxl⟩ := hx.len
  by_cases h1 : ahead.length = now.length
  · rw [hao, han] at l0
    rw [hxl]
    simp [L35, l0, h1]
    rw [← h1, ← hxl, ← hao]
    refine loop_at (InvO H p xo x ops ahead now) ops.length ?_ ?_
    · exact ⟨0, .slice none 0 0, by omega, by simp, by simp, by simp, by simp, by simp, by simp, by simpa [ontoN, ci] using Og.refl hw (Own.nil _ _ _)⟩
    · rintro k t H1 ⟨i, y, hik, t0, t1, t6, t20, t21, t22, a⟩
      cases k with
      | zero =>
        have e0 : i = ops.length := by omega
        subst e0
        obtain ⟨ya, hy⟩ := a.own.len
        simp [L35_1, t6, t21, t22, hy, packV]
        rw [← hy]
        simp only [OntoQ, h1, if_true]
        exact ⟨y, rfl, a⟩
      | succ k =>
        have hi' : i < ops.length := by omega
        have hi2 : i < now.length := by omega
        have hi3 : i < ahead.length := by omega
        have hf := h.frame a.base (fun b _ hb => Og.olds a b (by omega))
        obtain ⟨bo, off, ca, hbo, lo1⟩ := hf.oo.ints.at hi'
        obtain ⟨bn, offn, cn, hbn, ln1⟩ := hf.on.ints.at hi2
        obtain ⟨bx, offx, cx, hbx, lx1⟩ := (hx.keep hw a.base (Og.olds a)).at hi3
        have l1 := fun off => load_at (off := off) hf.hp hf.bp
        rw [hbn] at l1
        have e3 : IntKind.i64.wrap ((i : Int) + 1) = ((i + 1 : Nat) : Int) := by rw [w64 _ (by omega)]; omega
        obtain ⟨i1, hi1⟩ : ∃ i1, i1 = i + 1 := ⟨_, rfl⟩
        rw [← hi1] at e3
        obtain ⟨HA, ap, aA⟩ := Og.push a.wf a.own (iv (joinV ops[i] ahead[i] now[i])) (bytes := 8) (c := 0) (by omega)
        obtain ⟨y2, hy2⟩ : ∃ y2 : Addr, y2 = ⟨H1.next + 1, 0, none⟩ := ⟨_, rfl⟩
        rw [← hy2] at ap aA
        simp [L35_1, t0, t1, t6, t20, t21, t22, hbo, hi', lo1, hbx, hi3, lx1, l1, hi2, ln1]
        refine goT_of (join_T _ _ _) ?_
        simp [zerosA, ap, t22, e3]
        refine ⟨k, Nat.lt_succ_self k, i1, .slice (some y2) (i + 1) 0, by omega, by simp [t0], by simp [t1, hbx], by simp, by simp [t20, hbo], by simp [t21], by simp, ?_⟩
        show Og H HA _ _ _ _ _
        have e4 : ops.getD i 0 = ops[i] := by simp [List.getD, hi']
        have e5 : now.getD i 0 = now[i] := by simp [List.getD, hi2]
        have e6 : ahead.getD i 0 = ahead[i] := by simp [List.getD, hi3]
        rw [hi1, ontoN_succ, ci_append, e4, e5, e6]
        exact a.trans aA
  · rw [han] at l0
    rw [hxl]
    simp [L35, l0, h1, OntoQ, packV]
end Go.Proofs.Ytjkfghekdcalhaa.R14
