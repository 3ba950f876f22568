/-
  Chapter 29: heaps: what stands, variables, rows (carried over from chapter 25).
-/
import Derived.Test.YtfmcnojojknkfaaSeatA
import Derived.Test.YtfmcnojojknkfaaOtZn
import Derived.Test.YtfmcnojojknkfaaOtZ
import Derived.Laws.Strings
namespace Go.Proofs.Ytfmcnojojknkfaa
open Go.Ot Go.RowKit
set_option linter.unusedSimpArgs false
set_option linter.unusedVariables false
abbrev ptr (p : Nat) : Value := .pointer (some ⟨p, 0, none⟩)
abbrev iv (n : Int) : Value := .int .i64 n
abbrev bv (n : Nat) : Value := .int .u8 (n : Int)
abbrev uv (n : Nat) : Value := .int .u64 (n : Int)
theorem w64 (n : Int) (h : -9223372036854775808 ≤ n ∧ n ≤ 9223372036854775807) : IntKind.i64.wrap n = n := IntWalk.i64_in n h
/-! ### what stands -/
structure On (H H1 : Heap) : Prop where
  wf : H1.WF
  base : H1.base = H.base
  next : H.next ≤ H1.next
  keep : ∀ b, b < H.next → H1.blk b = H.blk b
theorem On.refl {H : Heap} (hw : H.WF) : On H H := ⟨hw, rfl, Nat.le_refl _, fun _ _ => rfl⟩
theorem On.trans {H H1 H2 : Heap} (a : On H H1) (b : On H1 H2) : On H H2 := ⟨b.wf, b.base.trans a.base, Nat.le_trans a.next b.next, fun c hc => by rw [b.keep c (Nat.lt_of_lt_of_le hc a.next), a.keep c hc]⟩
theorem On.new {H H1 : Heap} (a : On H H1) (ty sz : Nat) (c : List Value) : On H (H1.new ty sz c) :=
  ⟨WF_new a.wf _ _ _, a.base, Nat.le_trans a.next (by simp), fun b hb => by have := a.next; simp [show b ≠ H1.next by omega, a.keep b hb]⟩
theorem On.put {H H1 : Heap} (a : On H H1) {p : Nat} (hp : H.next ≤ p) (c : List Value) : On H (H1.put p c) :=
  ⟨WF_put a.wf _ _, a.base, a.next, fun b hb => by simp [show b ≠ p by omega, a.keep b hb]⟩
/-- All stands but one block. -/
structure Fr (H H1 : Heap) (p : Nat) : Prop where
  wf : H1.WF
  base : H1.base = H.base
  next : H.next ≤ H1.next
  keep : ∀ b, b < H.next → b ≠ p → H1.blk b = H.blk b
theorem Fr.refl {H : Heap} (hw : H.WF) (p : Nat) : Fr H H p := ⟨hw, rfl, Nat.le_refl _, fun _ _ _ => rfl⟩
theorem Fr.trans {H H1 H2 : Heap} {p : Nat} (a : Fr H H1 p) (b : Fr H1 H2 p) : Fr H H2 p := ⟨b.wf, b.base.trans a.base, Nat.le_trans a.next b.next, fun c hc hp => by rw [b.keep c (Nat.lt_of_lt_of_le hc a.next) hp, a.keep c hc hp]⟩
theorem On.fr {H H1 : Heap} (a : On H H1) (p : Nat) : Fr H H1 p := ⟨a.wf, a.base, a.next, fun c hc _ => a.keep c hc⟩
theorem Fr.put {H H1 : Heap} {p : Nat} (a : Fr H H1 p) (c : List Value) : Fr H (H1.put p c) p := ⟨WF_put a.wf _ _, a.base, a.next, fun b hb hp => by simp [hp, a.keep b hb hp]⟩
theorem Fr.new {H H1 : Heap} {p : Nat} (a : Fr H H1 p) (ty sz : Nat) (c : List Value) : Fr H (H1.new ty sz c) p :=
  ⟨WF_new a.wf _ _ _, a.base, Nat.le_trans a.next (by simp), fun b hb hp => by have := a.next; simp [show b ≠ H1.next by omega, a.keep b hb hp]⟩
/-- A variable. -/
structure Vr (G : Heap) (q ty n : Nat) (cs : List Value) : Prop where
  hq : ¬ q < G.B
  bq : G.blk q = some ⟨ty, n, cs⟩
  hn : 0 < n
theorem Vr.mk' {G : Heap} (hw : G.WF) (ty n : Nat) (cs : List Value) (hn : 0 < n := by decide) : Vr (G.new ty n cs) G.next ty n cs := ⟨by simpa using hw.next_ge, by simp, hn⟩
theorem Vr.new {G : Heap} (hw : G.WF) {q ty n : Nat} {cs : List Value} (h : Vr G q ty n cs) (ty' sz : Nat) (c : List Value) : Vr (G.new ty' sz c) q ty n cs :=
  ⟨by simpa using h.hq, by have := hw.lt h.bq; simp [show q ≠ G.next by omega, h.bq], h.hn⟩
theorem Vr.beside {G : Heap} {q ty n : Nat} {cs : List Value} (h : Vr G q ty n cs) {r : Nat} (hr : q ≠ r) (c : List Value) : Vr (G.put r c) q ty n cs := ⟨by simpa using h.hq, by simp [hr, h.bq], h.hn⟩
theorem Vr.put {G : Heap} {q ty n : Nat} {cs : List Value} (h : Vr G q ty n cs) (c : List Value) : Vr (G.put q c) q ty n c := ⟨by simpa using h.hq, by simp [h.bq], h.hn⟩
theorem Vr.keep {G G' : Heap} {q ty n : Nat} {cs : List Value} (h : Vr G q ty n cs) (hb : G'.base = G.base) (hk : G'.blk q = G.blk q) : Vr G' q ty n cs := ⟨by rw [B_eq hb]; exact h.hq, by rw [hk]; exact h.bq, h.hn⟩
theorem Vr.on {G G' : Heap} (hw : G.WF) {q ty n : Nat} {cs : List Value} (h : Vr G q ty n cs) (o : On G G') : Vr G' q ty n cs := h.keep o.base (o.keep _ (hw.lt h.bq))
theorem Vr.fr {G G' : Heap} {p : Nat} (hw : G.WF) {q ty n : Nat} {cs : List Value} (h : Vr G q ty n cs) (hp : q ≠ p) (o : Fr G G' p) : Vr G' q ty n cs := h.keep o.base (o.keep _ (hw.lt h.bq) hp)
theorem Vr.load {G : Heap} {q ty n : Nat} {cs : List Value} (h : Vr G q ty n cs) (j : Nat) : G.load ⟨q, j, none⟩ = cs[j]? := load_at h.hq h.bq h.hn
theorem Vr.store {G : Heap} {q ty n : Nat} {cs : List Value} (h : Vr G q ty n cs) (j : Nat) (v : Value) (hj : j < cs.length) : G.store ⟨q, j, none⟩ v = some (G.put q (cs.set j v)) := by
  rw [store_own h.hq h.bq h.hn, if_pos (by simpa using hj)]
theorem Vr.loadA {G : Heap} {q ty n m : Nat} {cs : List Value} (h : Vr G q ty n cs) (hm : cs.length = m) : G.loadN ⟨q, 0, none⟩ 0 m = some cs := by
  rw [loadN_at h.hq h.bq (by simp; omega) h.hn]
  simp [← hm]
theorem Vr.storeA {G : Heap} {q ty n : Nat} {cs : List Value} (h : Vr G q ty n cs) {m : Nat} (hm : 0 < m) (row : List Value) (hr : row.length = m) (hc : cs.length = m) : sStore G m (ptr q) (.agg row.toArray) = some (G.put q row) := by
  rw [sStore_agg _ _ _ _ hr hm, storeN_at h.hq h.bq (by simp; omega) h.hn]
  simp [hr]
  rw [List.drop_of_length_le (by omega), List.append_nil]
theorem Vr.same {G : Heap} {q ty n : Nat} {cs : List Value} (h : Vr G q ty n cs) : G.put q cs = G := put_self h.bq
/-- A new row, and nothing else. -/
structure Row (H H1 : Heap) (ety sz n : Nat) (cells : List Value) (y : Value) : Prop where
  own : Own H1 ety sz n cells y
  on : On H H1
  new : ∀ b, blkOf y = some b → H.next ≤ b
theorem Row.nil {H : Heap} (hw : H.WF) (ety sz : Nat) : Row H H ety sz 0 [] (.slice none 0 0) := ⟨Own.nil _ _ _, On.refl hw, fun b hb => (by cases hb)⟩
theorem Own.on {H H1 : Heap} (hw : H.WF) {ety sz n : Nat} {cells : List Value} {y : Value} (h : Own H ety sz n cells y) (o : On H H1) : Own H1 ety sz n cells y := h.keep (B_eq o.base) (fun b hb => o.keep b (h.lt hw hb))
theorem Own.fr {H H1 : Heap} {p : Nat} (hw : H.WF) {ety sz n : Nat} {cells : List Value} {y : Value} (h : Own H ety sz n cells y) (hp : blkOf y ≠ some p) (o : Fr H H1 p) : Own H1 ety sz n cells y := h.keep (B_eq o.base) (fun b hb => o.keep b (h.lt hw hb) (fun e => hp (by rw [hb, e])))
/-! ### bytes of a text -/
theorem src_own {H : Heap} {ety y sz : Nat} {e : List Value} (hy : ¬ y < H.B) (hv : H.blk y = some ⟨ety, sz, e⟩) (he : e.length = sz) (h0 : 0 < sz) (c : Nat) : srcCells H sz (.slice (some ⟨y, 0, none⟩) 1 c) = some (1, e) := by
  rw [src_at (ety := ety) (cs := e) hy hv (by omega)]
  simp [← he]
theorem row_push {H H1 : Heap} {ety sz n : Nat} (bytes : Nat) {cells e : List Value} {x : Value} (h : Row H H1 ety sz n cells x) (he : e.length = sz) (h0 : 0 < sz) (hb : (n + 1) * bytes ≤ 140737488355328) :
    ∃ z H3, sAppend (H1.new ety sz e) ety sz bytes x (.slice (some ⟨H1.next, 0, none⟩) 1 0) = some (z, H3) ∧ Row H H3 ety sz (n + 1) (cells ++ e) z := by
  obtain ⟨own, on, new⟩ := h
  have hnB := on.wf.next_ge
  have o : On H1 (H1.new ety sz e) := (On.refl on.wf).new _ _ _
  have own2 := Own.on on.wf own o
  have on2 := on.trans o
  have hs := src_own (H := H1.new ety sz e) (ety := ety) (y := H1.next) (sz := sz) (e := e) (by simpa using hnB) (by simp) he h0 0
  refine ⟨_, _, append_any own2 hs (by decide) hb, ⟨?_, ?_, ?_⟩⟩
  · refine Own.mk (by rw [List.length_append, own.1, he, Nat.add_mul, Nat.one_mul]) ?_ (by simp)
    simpa using o.wf.next_ge
  · refine ⟨WF_new (WF_drop o.wf _) _ _ _, by simpa using on2.base, by have := on2.next; simp at this ⊢; omega, fun b hb => ?_⟩
    have := on2.next
    have h2 : blkOf x ≠ some b := fun hx => by have := new b hx; omega
    have h3 : b ≠ (H1.new ety sz e).next := by omega
    rw [blk_new, if_neg (by simpa using h3), blk_drop, if_neg h2, on2.keep b hb]
  · intro b hb
    have : (H1.new ety sz e).next = b := by simpa using hb
    have := on2.next
    omega
end Go.Proofs.Ytfmcnojojknkfaa
