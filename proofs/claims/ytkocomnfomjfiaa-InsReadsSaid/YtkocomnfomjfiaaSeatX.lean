/-
  Chapter 8: a text taken up: what is to be, and the program's small numbers.
-/
import Derived.Test.YtkocomnfomjfiaaSeatW
namespace Go.Proofs.Ytkocomnfomjfiaa
open Go.Ot Go.RowKit
set_option linter.unusedSimpArgs false
set_option linter.unusedVariables false
/-- A number kept small. -/
def rdP (M : Nat) (l : List Nat) (f : Nat) : Nat × List Nat × Nat := (min (uS l f).1 M, (uS l f).2)
abbrev St := In × List Nat × Nat
def stU (M : Nat) (has : Bool) (set : In → Int → In) (s : St) : St := if has then (set s.1 (rdP M s.2.1 s.2.2).1, (rdP M s.2.1 s.2.2).2) else s
def stK (has : Bool) (s : St) : St := if has then ({ s.1 with k := (iS s.2.1 s.2.2).1 }, (iS s.2.1 s.2.2).2) else s
def setOp (x : In) (v : Int) : In := { x with op := v }
def setA (x : In) (v : Int) : In := { x with a := v }
def setB (x : In) (v : Int) : In := { x with b := v }
def setC (x : In) (v : Int) : In := { x with c := v }
def it3 (M : Nat) (h : Sh) : Nat → St → St
  | 0, s => s
  | 1, s => stU M h.a setA s
  | 2, s => stU M h.b setB (stU M h.a setA s)
  | _, s => stU M (h.c || h.cell) setC (stU M h.b setB (stU M h.a setA s))
def partsS (M : Nat) (h : Sh) (s : St) : St := stK h.k (it3 M h 3 (stU M (h.one || h.two) setOp s))
def newI (k : Int) : In := ⟨k, 0, 0, 0, 0, 0⟩
/-- The instructions one by one: an error, or what there is. -/
def loopS (M : Nat) : Nat → List Nat → Nat → List In → Nat × List In × List Nat × Nat
  | 0, l, f, acc => (0, acc, l, f)
  | n + 1, l, f, acc =>
    if (rdP M l f).2.2 ≠ 0 then ((rdP M l f).2.2, [], l, f)
    else if valid (rdP M l f).1 = false then (21, [], l, f)
    else loopS M n (partsS M (shp (rdP M l f).1) (newI (rdP M l f).1, (rdP M l f).2)).2.1 (partsS M (shp (rdP M l f).1) (newI (rdP M l f).1, (rdP M l f).2)).2.2
      (acc ++ [(partsS M (shp (rdP M l f).1) (newI (rdP M l f).1, (rdP M l f).2)).1])
def endS (cells : Int) (r : Nat × List In × List Nat × Nat) : List In × Int :=
  if r.1 ≠ 0 then ([], r.1) else if endN r.2.2.1 r.2.2.2 ≠ 0 then ([], endN r.2.2.1 r.2.2.2) else if (checkV r.2.1 cells).2 ≠ 0 then ([], (checkV r.2.1 cells).2) else (r.2.1, 0)
def decS (M : Nat) (b : List Nat) (cells : Int) : List In × Int :=
  endS cells (loopS M (countS b 0 1).1 (countS b 0 1).2.1 (countS b 0 1).2.2 [])
theorem rdP_suf (M : Nat) (l : List Nat) (f : Nat) : (rdP M l f).2.1 <:+ l := uS_suf l f
theorem stU_suf (M : Nat) (has : Bool) (set : In → Int → In) (s : St) : (stU M has set s).2.1 <:+ s.2.1 := by
  unfold stU; split
  · exact rdP_suf M _ _
  · exact List.suffix_refl _
theorem stK_suf (has : Bool) (s : St) : (stK has s).2.1 <:+ s.2.1 := by
  unfold stK; split
  · exact uS_suf _ _
  · exact List.suffix_refl _
theorem rsmall_T {H : Heap} {p : Nat} {x : Value} {b l : List Nat} {f : Nat} (h : RS H p x b l f) :
    T Try.prog 39 [ptr p] H (iv (rdP 256 l f).1) (H.put p (rsC x b (rdP 256 l f).2.1 (rdP 256 l f).2.2)) := by
  refine T_eq hm light39 ?_
  have T1 := ruint_T h
  unfold rdP
  obtain ⟨u, hu⟩ : ∃ u, u = (uS l f).1 := ⟨_, rfl⟩
  rw [← hu] at T1 ⊢
  simp only
  obtain ⟨G, hG⟩ : ∃ G, G = H.put p (rsC x b (uS l f).2.1 (uS l f).2.2) := ⟨_, rfl⟩
  rw [← hG] at T1 ⊢
  obtain ⟨m, hm'⟩ : ∃ m, m = min u 256 := ⟨_, rfl⟩
  have e1 : (if 256 < u then (256 : Int) else (u : Int)) = (m : Int) := by split <;> omega
  have e2 : IntKind.i64.wrap (m : Int) = (m : Int) := w64 _ (by omega)
  rw [← hm']
  simp [L39]
  refine goT_of T1 ?_
  simp [e1, e2]
/-- In a round: the reader, and all else as it was. -/
structure Rn (H G : Heap) (p : Nat) (x : Value) (b l : List Nat) (f : Nat) : Prop where
  rs : RS G p x b l f
  wf0 : H.WF
  wf : G.WF
  base : G.base = H.base
  next : H.next ≤ G.next
  same : Same H G [p]
  hp : p < H.next
  xl : ∀ c, blkOf x = some c → c < H.next
theorem Rn.refl {H : Heap} (hw : H.WF) {p : Nat} {x : Value} {b l : List Nat} {f : Nat} (h : RS H p x b l f) (hxl : ∀ c, blkOf x = some c → c < H.next) : Rn H H p x b l f :=
  ⟨h, hw, hw, rfl, Nat.le_refl _, Same.refl _ _, hw.lt h.rd.bp, hxl⟩
theorem Rn.step {H G : Heap} {p : Nat} {x : Value} {b l : List Nat} {f : Nat} (h : Rn H G p x b l f) {l2 : List Nat} (f2 : Nat) (hs : l2 <:+ l) : Rn H (G.put p (rsC x b l2 f2)) p x b l2 f2 :=
  ⟨h.rs.step f2 hs, h.wf0, WF_put h.wf _ _, by simpa using h.base, by simpa using h.next, fun c hc hn => by
    have : c ≠ p := by simpa using hn
    simp [this, h.same c hc hn], h.hp, h.xl⟩
theorem Rn.new {H G : Heap} {p : Nat} {x : Value} {b l : List Nat} {f : Nat} (h : Rn H G p x b l f) (ty sz : Nat) (cs : List Value) : Rn H (G.new ty sz cs) p x b l f := by
  have hn := h.next
  have hp := h.hp
  refine ⟨h.rs.frame rfl (by simp [show p ≠ G.next by omega]) (fun c hc => by have := h.xl c hc; simp [show c ≠ G.next by omega]), h.wf0, WF_new h.wf _ _ _, h.base, by simp; omega, fun c hc hn2 => ?_, hp, h.xl⟩
  simp [show c ≠ G.next by omega]
  exact h.same c hc hn2
theorem Rn.put {H G : Heap} {p : Nat} {x : Value} {b l : List Nat} {f : Nat} (h : Rn H G p x b l f) {q : Nat} (hq : H.next ≤ q) (cs : List Value) : Rn H (G.put q cs) p x b l f := by
  have hp := h.hp
  refine ⟨h.rs.frame (by simp) (by simp [show p ≠ q by omega]) (fun c hc => by have := h.xl c hc; simp [show c ≠ q by omega]), h.wf0, WF_put h.wf _ _, by simpa using h.base, by simpa using h.next, fun c hc hn2 => ?_, hp, h.xl⟩
  simp [show c ≠ q by omega]
  exact h.same c hc hn2
theorem Rn.call {H G G' : Heap} {p : Nat} {x : Value} {b l : List Nat} {f : Nat} (h : Rn H G p x b l f) {g : FuncId} {args : List Value} {v : Value} (hT : T Try.prog g args G v G') (hs : Same G G' []) : Rn H G' p x b l f := by
  have hn := h.next
  have hp := h.hp
  exact ⟨h.rs.frame hT.1 (hs p (by omega) (by simp)) (fun c hc => hs c (by have := h.xl c hc; omega) (by simp)), h.wf0, hT.grow.wf h.wf, hT.1.trans h.base, Nat.le_trans hn hT.grow.next, fun c hc hn2 => (hs c (by omega) (by simp)).trans (h.same c hc hn2), hp, h.xl⟩
/-- A variable. -/
structure Vr (G : Heap) (q ty n : Nat) (cs : List Value) : Prop where
  hq : ¬ q < G.B
  bq : G.blk q = some ⟨ty, n, cs⟩
theorem Vr.mk' {G : Heap} (hw : G.WF) (ty n : Nat) (cs : List Value) : Vr (G.new ty n cs) G.next ty n cs := ⟨by simpa using hw.next_ge, by simp⟩
theorem Vr.new {G : Heap} (hw : G.WF) {q ty n : Nat} {cs : List Value} (h : Vr G q ty n cs) (ty' sz : Nat) (c : List Value) : Vr (G.new ty' sz c) q ty n cs :=
  ⟨by simpa using h.hq, by have := hw.lt h.bq; simp [show q ≠ G.next by omega, h.bq]⟩
theorem Vr.beside {G : Heap} {q ty n : Nat} {cs : List Value} (h : Vr G q ty n cs) {r : Nat} (hr : q ≠ r) (c : List Value) : Vr (G.put r c) q ty n cs := ⟨by simpa using h.hq, by simp [hr, h.bq]⟩
theorem Vr.put {G : Heap} {q ty n : Nat} {cs : List Value} (h : Vr G q ty n cs) (c : List Value) : Vr (G.put q c) q ty n c := ⟨by simpa using h.hq, by simp [h.bq]⟩
theorem Vr.keep {G G' : Heap} {q ty n : Nat} {cs : List Value} (h : Vr G q ty n cs) (hb : G'.base = G.base) (hk : G'.blk q = G.blk q) : Vr G' q ty n cs := ⟨by rw [B_eq hb]; exact h.hq, by rw [hk]; exact h.bq⟩
theorem Vr.load {G : Heap} {q ty n : Nat} {cs : List Value} (h : Vr G q ty n cs) (j : Nat) : G.load ⟨q, j, none⟩ = cs[j]? := load_at h.hq h.bq
theorem Vr.store {G : Heap} {q ty n : Nat} {cs : List Value} (h : Vr G q ty n cs) (j : Nat) (v : Value) (hj : j < cs.length) : G.store ⟨q, j, none⟩ v = some (G.put q (cs.set j v)) := by
  rw [store_own h.hq h.bq, if_pos (by simpa using hj)]
theorem Vr.loadA {G : Heap} {q ty n m : Nat} {cs : List Value} (h : Vr G q ty n cs) (hm : cs.length = m) : G.loadN ⟨q, 0, none⟩ 0 m = some cs := by
  rw [loadN_at h.hq h.bq (by simp; omega)]
  simp [← hm]
end Go.Proofs.Ytkocomnfomjfiaa
