/-
  Chapter 26: heaps: what stands, variables, rows (carried over from chapter 25). Chapter 26: which instructions may be (carried over from chapter 25).
-/
import Derived.Test.YtnomffikflfilaaGreatSeatA
import Derived.Test.YtnomffikflfilaaGreatOtZn
import Derived.Test.YtnomffikflfilaaGreatOtZ
import Derived.Laws.Strings
namespace Go.Proofs.YtnomffikflfilaaGreat
open Go.Ot Go.RowKit
set_option linter.unusedSimpArgs false
set_option linter.unusedVariables false
abbrev ptr (p : Nat) : Value := .pointer (some ⟨p, 0, none⟩)
abbrev iv (n : Int) : Value := .int .i64 n
theorem w64 (n : Int) (h : -9223372036854775808 ≤ n ∧ n ≤ 9223372036854775807) : IntKind.i64.wrap n = n := IntWalk.i64_in n h
structure On (H H1 : Heap) : Prop where
  wf : H1.WF
  base : H1.base = H.base
  next : H.next ≤ H1.next
  keep : ∀ b, b < H.next → H1.blk b = H.blk b
theorem On.refl {H : Heap} (hw : H.WF) : On H H := ⟨hw, rfl, Nat.le_refl _, fun _ _ => rfl⟩
theorem On.trans {H H1 H2 : Heap} (a : On H H1) (b : On H1 H2) : On H H2 := ⟨b.wf, b.base.trans a.base, Nat.le_trans a.next b.next, fun c hc => by rw [b.keep c (Nat.lt_of_lt_of_le hc a.next), a.keep c hc]⟩
theorem On.new {H H1 : Heap} (a : On H H1) (ty sz : Nat) (c : List Value) : On H (H1.new ty sz c) :=
  ⟨WF_new a.wf _ _ _, a.base, Nat.le_trans a.next (by simp), fun b hb => by have := a.next; simp [show b ≠ H1.next by omega, a.keep b hb]⟩
theorem On.put {H H1 : Heap} (a : On H H1) {p : Nat} (hp : H.next ≤ p) (c : List Value) : On H (H1.put p c) :=
  ⟨WF_put a.wf _ _, a.base, a.next, fun b hb => by simp [show b ≠ p by omega, a.keep b hb]⟩
structure Fr (H H1 : Heap) (p : Nat) : Prop where
  wf : H1.WF
  base : H1.base = H.base
  next : H.next ≤ H1.next
  keep : ∀ b, b < H.next → b ≠ p → H1.blk b = H.blk b
theorem Fr.refl {H : Heap} (hw : H.WF) (p : Nat) : Fr H H p := ⟨hw, rfl, Nat.le_refl _, fun _ _ _ => rfl⟩
theorem Fr.trans {H H1 H2 : Heap} {p : Nat} (a : Fr H H1 p) (b : Fr H1 H2 p) : Fr H H2 p := ⟨b.wf, b.base.trans a.base, Nat.le_trans a.next b.next, fun c hc hp => by rw [b.keep c (Nat.lt_of_lt_of_le hc a.next) hp, a.keep c hc hp]⟩
theorem On.fr {H H1 : Heap} (a : On H H1) (p : Nat) : Fr H H1 p := ⟨a.wf, a.base, a.next, fun c hc _ => a.keep c hc⟩
theorem Fr.put {H H1 : Heap} {p : Nat} (a : Fr H H1 p) (c : List Value) : Fr H (H1.put p c) p := ⟨WF_put a.wf _ _, a.base, a.next, fun b hb hp => by simp [hp, a.keep b hb hp]⟩
theorem Fr.new {H H1 : Heap} {p : Nat} (a : Fr H H1 p) (ty sz : Nat) (c : List Value) : Fr H (H1.new ty sz c) p :=
  ⟨WF_new a.wf _ _ _, a.base, Nat.le_trans a.next (by simp), fun b hb hp => by have := a.next; simp [show b ≠ H1.next by omega, a.keep b hb hp]⟩
structure Vr (G : Heap) (q ty n : Nat) (cs : List Value) : Prop where
  hq : ¬ q < G.B
  bq : G.blk q = some ⟨ty, n, cs⟩
  hn : 0 < n
theorem Vr.mk' {G : Heap} (hw : G.WF) (ty n : Nat) (cs : List Value) (hn : 0 < n := by decide) : Vr (G.new ty n cs) G.next ty n cs := ⟨by simpa using hw.next_ge, by simp, hn⟩
theorem Vr.new {G : Heap} (hw : G.WF) {q ty n : Nat} {cs : List Value} (h : Vr G q ty n cs) (ty' sz : Nat) (c : List Value) : Vr (G.new ty' sz c) q ty n cs :=
  ⟨by simpa using h.hq, by have := hw.lt h.bq; simp [show q ≠ G.next by omega, h.bq], h.hn⟩
theorem Vr.beside {G : Heap} {q ty n : Nat} {cs : List Value} (h : Vr G q ty n cs) {r : Nat} (hr : q ≠ r) (c : List Value) : Vr (G.put r c) q ty n cs := ⟨by simpa using h.hq, by simp [hr, h.bq], h.hn⟩
theorem Vr.put {G : Heap} {q ty n : Nat} {cs : List Value} (h : Vr G q ty n cs) (c : List Value) : Vr (G.put q c) q ty n c := ⟨by simpa using h.hq, by simp [h.bq], h.hn⟩
theorem Vr.keep {G G' : Heap} {q ty n : Nat} {cs : List Value} (h : Vr G q ty n cs) (hb : G'.base = G.base) (hk : G'.blk q = G.blk q) : Vr G' q ty n cs := ⟨by rw [B_eq hb]; exact h.hq, by rw [hk]; exact h.bq, h.hn⟩
theorem Vr.on {G G' : Heap} (hw : G.WF) {q ty n : Nat} {cs : List Value} (h : Vr G q ty n cs) (o : On G G') : Vr G' q ty n cs := h.keep o.base (o.keep _ (hw.lt h.bq))
theorem Vr.fr {G G' : Heap} {p : Nat} (hw : G.WF) {q ty n : Nat} {cs : List Value} (h : Vr G q ty n cs) (hp : q ≠ p) (o : Fr G G' p) : Vr G' q ty n cs := h.keep o.base (o.keep _ (hw.lt h.bq) hp)
theorem Vr.load {G : Heap} {q ty n : Nat} {cs : List Value} (h : Vr G q ty n cs) (j : Nat) : G.load ⟨q, j, none⟩ = cs[j]? := load_at h.hq h.bq h.hn
theorem Vr.store {G : Heap} {q ty n : Nat} {cs : List Value} (h : Vr G q ty n cs) (j : Nat) (v : Value) (hj : j < cs.length) : G.store ⟨q, j, none⟩ v = some (G.put q (cs.set j v)) := by
  rw [store_own h.hq h.bq h.hn, if_pos (by simpa using hj)]
theorem Vr.loadA {G : Heap} {q ty n m : Nat} {cs : List Value} (h : Vr G q ty n cs) (hm : cs.length = m) : G.loadN ⟨q, 0, none⟩ 0 m = some cs := by
  rw [loadN_at h.hq h.bq (by simp; omega) h.hn]
  simp [← hm]
theorem Vr.storeA {G : Heap} {q ty n : Nat} {cs : List Value} (h : Vr G q ty n cs) {m : Nat} (hm : 0 < m) (row : List Value) (hr : row.length = m) (hc : cs.length = m) : sStore G m (ptr q) (.agg row.toArray) = some (G.put q row) := by
  rw [sStore_agg _ _ _ _ hr hm, storeN_at h.hq h.bq (by simp; omega) h.hn]
  simp [hr]
  rw [List.drop_of_length_le (by omega), List.append_nil]
theorem Vr.same {G : Heap} {q ty n : Nat} {cs : List Value} (h : Vr G q ty n cs) : G.put q cs = G := put_self h.bq
structure Row (H H1 : Heap) (ety sz n : Nat) (cells : List Value) (y : Value) : Prop where
  own : Own H1 ety sz n cells y
  on : On H H1
  new : ∀ b, blkOf y = some b → H.next ≤ b
theorem Row.nil {H : Heap} (hw : H.WF) (ety sz : Nat) : Row H H ety sz 0 [] (.slice none 0 0) := ⟨Own.nil _ _ _, On.refl hw, fun b hb => (by cases hb)⟩
theorem Own.on {H H1 : Heap} (hw : H.WF) {ety sz n : Nat} {cells : List Value} {y : Value} (h : Own H ety sz n cells y) (o : On H H1) : Own H1 ety sz n cells y := h.keep (B_eq o.base) (fun b hb => o.keep b (h.lt hw hb))
theorem Own.fr {H H1 : Heap} {p : Nat} (hw : H.WF) {ety sz n : Nat} {cells : List Value} {y : Value} (h : Own H ety sz n cells y) (hp : blkOf y ≠ some p) (o : Fr H H1 p) : Own H1 ety sz n cells y := h.keep (B_eq o.base) (fun b hb => o.keep b (h.lt hw hb) (fun e => hp (by rw [hb, e])))
end Go.Proofs.YtnomffikflfilaaGreat
namespace Go.Proofs.YtnomffikflfilaaGreat.I8
open Go.Ot Go.RowKit
set_option linter.unusedSimpArgs false
set_option linter.unusedVariables false
def okI (n : Int) : Prop := -9223372036854775808 ≤ n ∧ n ≤ 9223372036854775807
structure In where
  kind : Int
  op : Int
  a : Int
  b : Int
  c : Int
  k : Int
def rowI (x : In) : List Value := [iv x.kind, iv x.op, iv x.a, iv x.b, iv x.c, iv x.k]
structure Sh where
  a : Bool
  b : Bool
  c : Bool
  cell : Bool
  k : Bool
  target : Bool
  one : Bool
  two : Bool
def rowS (s : Sh) : List Value := [.bool s.a, .bool s.b, .bool s.c, .bool s.cell, .bool s.k, .bool s.target, .bool s.one, .bool s.two]
def none8 : Sh := ⟨false, false, false, false, false, false, false, false⟩
def shp (k : Int) : Sh :=
  if k = 1 then none8 else if k = 2 then { none8 with a := true, k := true } else if k = 3 then { none8 with a := true, b := true } else if k = 4 then { none8 with a := true, b := true, one := true }
  else if k = 5 then { none8 with a := true, b := true, c := true, two := true } else if k = 6 then { none8 with a := true, b := true, k := true } else if k = 7 then { none8 with a := true, b := true, k := true }
  else if k = 8 then { none8 with a := true, cell := true } else if k = 9 then { none8 with a := true } else if k = 10 then { none8 with k := true, target := true } else if k = 11 then { none8 with a := true, k := true, target := true }
  else if k = 12 then { none8 with a := true, k := true, target := true } else if k = 13 then { none8 with a := true } else none8
def valid (k : Int) : Bool := decide (1 ≤ k) && decide (k ≤ 13)
theorem kinds {k : Int} (h : valid k = true) : k = 1 ∨ k = 2 ∨ k = 3 ∨ k = 4 ∨ k = 5 ∨ k = 6 ∨ k = 7 ∨ k = 8 ∨ k = 9 ∨ k = 10 ∨ k = 11 ∨ k = 12 ∨ k = 13 := by
  simp [valid] at h; omega
theorem shape_T {H : Heap} (hw : H.WF) (k : Int) : ∃ v H', T Tryz.prog 114 [iv k] H v H' ∧ v = .tuple #[.agg (rowS (shp k)).toArray, .bool (valid k)] ∧ Same H H' [] := by
  refine T_by hm light114 ?_
  have z8 : zerosA [.bool false] 8 = [.bool false, .bool false, .bool false, .bool false, .bool false, .bool false, .bool false, .bool false] := rfl
  have st : ∀ l : List Value, l.length = 8 → sStore (H.new 219 8 [.bool false, .bool false, .bool false, .bool false, .bool false, .bool false, .bool false, .bool false]) 8 (.pointer (some ⟨H.next, 0, none⟩)) (.agg l.toArray) = some (H.new 219 8 l) := fun l hl => new_storeA hw 219 8 _ l rfl hl (by decide)
  have ld : ∀ l : List Value, l.length = 8 → (H.new 219 8 l).loadN ⟨H.next, 0, none⟩ 0 8 = some l := fun l hl => new_loadA hw 219 8 l hl
  have sm : ∀ l : List Value, Same H (H.new 219 8 l) [] := fun l b hb _ => by simp [show b ≠ H.next by omega]
  cases hv : valid k with
  | true =>
    rcases kinds hv with rfl | rfl | rfl | rfl | rfl | rfl | rfl | rfl | rfl | rfl | rfl | rfl | rfl <;> simp [L114, st, ld, sm, packV, shp, rowS, none8]
  | false =>
    have : ¬ (1 ≤ k ∧ k ≤ 13) := by simpa [valid] using hv
    have e1 : ¬ k = 1 := by omega
    have e2 : ¬ k = 2 := by omega
    have e3 : ¬ k = 3 := by omega
    have e4 : ¬ k = 4 := by omega
    have e5 : ¬ k = 5 := by omega
    have e6 : ¬ k = 6 := by omega
    have e7 : ¬ k = 7 := by omega
    have e8 : ¬ k = 8 := by omega
    have e9 : ¬ k = 9 := by omega
    have e10 : ¬ k = 10 := by omega
    have e11 : ¬ k = 11 := by omega
    have e12 : ¬ k = 12 := by omega
    have e13 : ¬ k = 13 := by omega
    simp [L114, st, ld, sm, packV, shp, rowS, none8, e1, e2, e3, e4, e5, e6, e7, e8, e9, e10, e11, e12, e13]
def badR (n : Int) : Bool := decide (n < 0) || decide (15 < n)
theorem reg_T {H : Heap} (n : Int) : T Tryz.prog 151 [.bool true, iv n] H (.bool (!badR n)) H := by
  refine T_eq hm light151 ?_
  by_cases h1 : n < 0
  · have h1' : ¬ 0 ≤ n := by omega
    simp [L151, badR, h1, h1']
  · have h1' : 0 ≤ n := by omega
    by_cases h2 : 15 < n
    · have h2' : ¬ n < 16 := by omega
      simp [L151, badR, h1, h1', h2, h2']
    · have h2' : n < 16 := by omega
      simp [L151, badR, h1, h1', h2, h2']
theorem falls_T0 {H : Heap} (hw : H.WF) (x : In) : ∃ v H', T Tryz.prog 120 [.agg (rowI x).toArray] H v H' ∧ v = .bool (decide (x.kind ≠ 1) && decide (x.kind ≠ 10) && decide (x.kind ≠ 13)) ∧ Same H H' [] := by
  refine T_by hm light120 ?_
  have l0 := new_load hw 113 6 (rowI x)
  have sm : Same H (H.new 113 6 (rowI x)) [] := fun b hb _ => by simp [show b ≠ H.next by omega]
  simp only [rowI] at l0 sm
  obtain ⟨r, hr⟩ : ∃ r, r = (decide (x.kind ≠ 1) && decide (x.kind ≠ 10) && decide (x.kind ≠ 13)) := ⟨_, rfl⟩
  rw [← hr]
  by_cases h1 : x.kind = 1
  · have e1 : (x.kind != 1) = false := by simp [h1]
    have e0 : r = false := by rw [hr]; simp [h1]
    simp [L120, rowI, l0, e0, e1, sm]
  · have e1 : (x.kind != 1) = true := bne_iff_ne.2 h1
    by_cases h2 : x.kind = 10
    · have e2 : (x.kind != 10) = false := by simp [h2]
      have e0 : r = false := by rw [hr]; simp [h2]
      simp [L120, rowI, l0, e0, e1, e2, sm]
    · have e2 : (x.kind != 10) = true := bne_iff_ne.2 h2
      by_cases h3 : x.kind = 13
      · have e3 : (x.kind != 13) = false := by simp [h3]
        have e0 : r = false := by rw [hr]; simp [h3]
        simp [L120, rowI, l0, e0, e1, e2, e3, sm]
      · have e3 : (x.kind != 13) = true := bne_iff_ne.2 h3
        have e0 : r = true := by rw [hr]; simp [h1, h2, h3]
        simp [L120, rowI, l0, e0, e1, e2, e3, sm]
structure O1 (H : Heap) (t : Tm) (bx bs : Nat) (x : In) (s : Sh) (cells long : Int) : Prop where
  t3 : t 3 = ptr bx
  t7 : t 7 = ptr bs
  t1 : t 1 = iv cells
  t2 : t 2 = iv long
  lx : ∀ j, H.load ⟨bx, j, none⟩ = (rowI x)[j]?
  ls : ∀ j, H.load ⟨bs, j, none⟩ = (rowS s)[j]?
def B11 : LCode := match L119 with | .seq _ (.seq _ (.seq (.block _ (.seq _ (.cond _ _ c))) _)) => c | _ => .skip
def S2 : LCode := match B11 with | .seq _ (.cond _ _ c) => c | _ => .skip
def S3 : LCode := match S2 with | .seq _ (.cond _ _ c) => c | _ => .skip
def S4 : LCode := match S3 with | .seq _ (.cond _ _ c) => c | _ => .skip
def S5 : LCode := match S4 with | .seq _ (.cond _ _ c) => c | _ => .skip
def fst (c : LCode) : LCode := match c with | .seq a _ => a | c => c
def els (c : LCode) : LCode := match c with | .seq _ (.cond _ _ c) => c | _ => .skip
def Rc2a : LCode := fst (fst B11)
def Rc2b : LCode := els (fst B11)
def Rc3a : LCode := fst (fst S2)
def Rc3b : LCode := fst (els (fst S2))
def Rc3c : LCode := els (els (fst S2))
def Rc4a : LCode := fst (fst S3)
def Rc4b : LCode := fst (els (fst S3))
def Rc4c : LCode := fst (els (els (fst S3)))
def Rc4k : LCode := fst (els (els (els (fst S3))))
def Rc4o : LCode := els (els (els (els (fst S3))))
def Rc5 : LCode := fst S4
def Rc6 : LCode := fst S5
def fail (n : Int) : LCode := .seq (.region [⟨some 6, .move (.const (.int .i64 n)), none⟩]) (.ret)
def F1 (x : Nat) (c : Int) (r : LCode) : LCode := .cond (.tmp x) (fail c) r
theorem B11_eq : B11 = .seq (.seq Rc2a (.cond (.tmp 18) .skip Rc2b)) (F1 18 81 (.seq (.seq Rc3a (.cond (.tmp 43) .skip (.seq Rc3b (.cond (.tmp 43) .skip Rc3c)))) (F1 43 82
  (.seq (.seq Rc4a (.cond (.tmp 68) .skip (.seq Rc4b (.cond (.tmp 68) .skip (.seq Rc4c (.cond (.tmp 68) .skip (.seq Rc4k (.cond (.tmp 68) .skip Rc4o)))))))) (F1 68 83 (.seq Rc5 (F1 119 63 (.seq Rc6 (F1 134 84 .skip))))))))) := rfl
theorem pc2a {H : Heap} {t : Tm} {bx bs : Nat} {x : In} {s : Sh} {cells long : Int} (h : O1 H t bx bs x s cells long) {Q : Post}
    (hQ : ∀ t' : Tm, O1 H t' bx bs x s cells long → t' 18 = .bool (s.two && (decide (x.op < 1) || decide (18 < x.op))) → Q .normal t' (rdy H)) : wpA Tryz.prog Rc2a Q t (rdy H) := by
  obtain ⟨t3, t7, t1, t2, lx, ls⟩ := h
  have lx0 := lx
  have ls0 := ls
  simp only [rowI] at lx
  simp only [rowS] at ls
  have R : Rc2a = .region [⟨some 19, .off 7 (.tmp 7), none⟩,
  ⟨some 20, .load false 1 (.tmp 19), none⟩,
  ⟨some 21, .move (.tmp 20), none⟩,
  ⟨some 22, .off 1 (.tmp 3), (some (21, true))⟩,
  ⟨some 23, .load false 1 (.tmp 22), (some (21, true))⟩,
  ⟨some 24, .bin .lss (.tmp 23) (.const (.int .i64 1)), (some (21, true))⟩,
  ⟨some 25, .move (.tmp 24), (some (21, true))⟩,
  ⟨some 26, .off 1 (.tmp 3), (some (25, false))⟩,
  ⟨some 27, .load false 1 (.tmp 26), (some (25, false))⟩,
  ⟨some 28, .bin .gtr (.tmp 27) (.const (.int .i64 18)), (some (25, false))⟩,
  ⟨some 29, .pick (.tmp 25) (.const (.bool true)) (.tmp 28), (some (21, true))⟩,
  ⟨some 30, .pick (.tmp 21) (.tmp 29) (.const (.bool false)), none⟩,
  ⟨some 18, .move (.tmp 30), none⟩] := rfl
  rw [R]
  cases hb0 : s.two <;> by_cases hc0 : x.op < 1 <;> by_cases hc1 : 18 < x.op <;> simp [t3, t7, t1, t2, lx, ls, sMM, sMinMax, hb0, hc0, hc1] <;>
    (refine hQ _ ⟨by simp [t3], by simp [t7], by simp [t1], by simp [t2], lx0, ls0⟩ ?_; simp [hb0, hc0, hc1])
theorem pc2b {H : Heap} {t : Tm} {bx bs : Nat} {x : In} {s : Sh} {cells long : Int} (h : O1 H t bx bs x s cells long) {Q : Post}
    (hQ : ∀ t' : Tm, O1 H t' bx bs x s cells long → t' 18 = .bool (s.one && (decide (x.op < 19) || decide (21 < x.op))) → Q .normal t' (rdy H)) : wpA Tryz.prog Rc2b Q t (rdy H) := by
  obtain ⟨t3, t7, t1, t2, lx, ls⟩ := h
  have lx0 := lx
  have ls0 := ls
  simp only [rowI] at lx
  simp only [rowS] at ls
  have R : Rc2b = .region [⟨some 31, .off 6 (.tmp 7), none⟩,
  ⟨some 32, .load false 1 (.tmp 31), none⟩,
  ⟨some 33, .move (.tmp 32), none⟩,
  ⟨some 34, .off 1 (.tmp 3), (some (33, true))⟩,
  ⟨some 35, .load false 1 (.tmp 34), (some (33, true))⟩,
  ⟨some 36, .bin .lss (.tmp 35) (.const (.int .i64 19)), (some (33, true))⟩,
  ⟨some 37, .move (.tmp 36), (some (33, true))⟩,
  ⟨some 38, .off 1 (.tmp 3), (some (37, false))⟩,
  ⟨some 39, .load false 1 (.tmp 38), (some (37, false))⟩,
  ⟨some 40, .bin .gtr (.tmp 39) (.const (.int .i64 21)), (some (37, false))⟩,
  ⟨some 41, .pick (.tmp 37) (.const (.bool true)) (.tmp 40), (some (33, true))⟩,
  ⟨some 42, .pick (.tmp 33) (.tmp 41) (.const (.bool false)), none⟩,
  ⟨some 18, .move (.tmp 42), none⟩] := rfl
  rw [R]
  cases hb0 : s.one <;> by_cases hc0 : x.op < 19 <;> by_cases hc1 : 21 < x.op <;> simp [t3, t7, t1, t2, lx, ls, sMM, sMinMax, hb0, hc0, hc1] <;>
    (refine hQ _ ⟨by simp [t3], by simp [t7], by simp [t1], by simp [t2], lx0, ls0⟩ ?_; simp [hb0, hc0, hc1])
theorem pc3a {H : Heap} {t : Tm} {bx bs : Nat} {x : In} {s : Sh} {cells long : Int} (h : O1 H t bx bs x s cells long) {Q : Post}
    (hQ : ∀ t' : Tm, O1 H t' bx bs x s cells long → t' 43 = .bool (s.a && badR x.a) → Q .normal t' (rdy H)) : wpA Tryz.prog Rc3a Q t (rdy H) := by
  obtain ⟨t3, t7, t1, t2, lx, ls⟩ := h
  have lx0 := lx
  have ls0 := ls
  simp only [rowI] at lx
  simp only [rowS] at ls
  have R : Rc3a = .region [⟨some 44, .off 0 (.tmp 7), none⟩,
  ⟨some 45, .load false 1 (.tmp 44), none⟩,
  ⟨some 46, .move (.tmp 45), none⟩,
  ⟨some 47, .off 2 (.tmp 3), (some (46, true))⟩,
  ⟨some 48, .load false 1 (.tmp 47), (some (46, true))⟩,
  ⟨some 49, .call 151 [.const (.bool true), .tmp 48], (some (46, true))⟩,
  ⟨some 50, .un .not (.tmp 49), (some (46, true))⟩,
  ⟨some 51, .pick (.tmp 46) (.tmp 50) (.const (.bool false)), none⟩,
  ⟨some 43, .move (.tmp 51), none⟩] := rfl
  rw [R]
  cases hb0 : s.a
  · simp [t3, t7, t1, t2, lx, ls, hb0]
    exact hQ _ ⟨by simp [t3], by simp [t7], by simp [t1], by simp [t2], lx0, ls0⟩ (by simp [hb0])
  · simp [t3, t7, t1, t2, lx, ls, hb0]
    refine goT_of (reg_T _) ?_
    simp
    exact hQ _ ⟨by simp [t3], by simp [t7], by simp [t1], by simp [t2], lx0, ls0⟩ (by simp [hb0])
theorem pc3b {H : Heap} {t : Tm} {bx bs : Nat} {x : In} {s : Sh} {cells long : Int} (h : O1 H t bx bs x s cells long) {Q : Post}
    (hQ : ∀ t' : Tm, O1 H t' bx bs x s cells long → t' 43 = .bool (s.b && badR x.b) → Q .normal t' (rdy H)) : wpA Tryz.prog Rc3b Q t (rdy H) := by
  obtain ⟨t3, t7, t1, t2, lx, ls⟩ := h
  have lx0 := lx
  have ls0 := ls
  simp only [rowI] at lx
  simp only [rowS] at ls
  have R : Rc3b = .region [⟨some 52, .off 1 (.tmp 7), none⟩,
  ⟨some 53, .load false 1 (.tmp 52), none⟩,
  ⟨some 54, .move (.tmp 53), none⟩,
  ⟨some 55, .off 3 (.tmp 3), (some (54, true))⟩,
  ⟨some 56, .load false 1 (.tmp 55), (some (54, true))⟩,
  ⟨some 57, .call 151 [.const (.bool true), .tmp 56], (some (54, true))⟩,
  ⟨some 58, .un .not (.tmp 57), (some (54, true))⟩,
  ⟨some 59, .pick (.tmp 54) (.tmp 58) (.const (.bool false)), none⟩,
  ⟨some 43, .move (.tmp 59), none⟩] := rfl
  rw [R]
  cases hb0 : s.b
  · simp [t3, t7, t1, t2, lx, ls, hb0]
    exact hQ _ ⟨by simp [t3], by simp [t7], by simp [t1], by simp [t2], lx0, ls0⟩ (by simp [hb0])
  · simp [t3, t7, t1, t2, lx, ls, hb0]
    refine goT_of (reg_T _) ?_
    simp
    exact hQ _ ⟨by simp [t3], by simp [t7], by simp [t1], by simp [t2], lx0, ls0⟩ (by simp [hb0])
theorem pc3c {H : Heap} {t : Tm} {bx bs : Nat} {x : In} {s : Sh} {cells long : Int} (h : O1 H t bx bs x s cells long) {Q : Post}
    (hQ : ∀ t' : Tm, O1 H t' bx bs x s cells long → t' 43 = .bool (s.c && badR x.c) → Q .normal t' (rdy H)) : wpA Tryz.prog Rc3c Q t (rdy H) := by
  obtain ⟨t3, t7, t1, t2, lx, ls⟩ := h
  have lx0 := lx
  have ls0 := ls
  simp only [rowI] at lx
  simp only [rowS] at ls
  have R : Rc3c = .region [⟨some 60, .off 2 (.tmp 7), none⟩,
  ⟨some 61, .load false 1 (.tmp 60), none⟩,
  ⟨some 62, .move (.tmp 61), none⟩,
  ⟨some 63, .off 4 (.tmp 3), (some (62, true))⟩,
  ⟨some 64, .load false 1 (.tmp 63), (some (62, true))⟩,
  ⟨some 65, .call 151 [.const (.bool true), .tmp 64], (some (62, true))⟩,
  ⟨some 66, .un .not (.tmp 65), (some (62, true))⟩,
  ⟨some 67, .pick (.tmp 62) (.tmp 66) (.const (.bool false)), none⟩,
  ⟨some 43, .move (.tmp 67), none⟩] := rfl
  rw [R]
  cases hb0 : s.c
  · simp [t3, t7, t1, t2, lx, ls, hb0]
    exact hQ _ ⟨by simp [t3], by simp [t7], by simp [t1], by simp [t2], lx0, ls0⟩ (by simp [hb0])
  · simp [t3, t7, t1, t2, lx, ls, hb0]
    refine goT_of (reg_T _) ?_
    simp
    exact hQ _ ⟨by simp [t3], by simp [t7], by simp [t1], by simp [t2], lx0, ls0⟩ (by simp [hb0])
theorem pc4a {H : Heap} {t : Tm} {bx bs : Nat} {x : In} {s : Sh} {cells long : Int} (h : O1 H t bx bs x s cells long) {Q : Post}
    (hQ : ∀ t' : Tm, O1 H t' bx bs x s cells long → t' 68 = .bool (!s.a && decide (x.a ≠ 0)) → Q .normal t' (rdy H)) : wpA Tryz.prog Rc4a Q t (rdy H) := by
  obtain ⟨t3, t7, t1, t2, lx, ls⟩ := h
  have lx0 := lx
  have ls0 := ls
  simp only [rowI] at lx
  simp only [rowS] at ls
  have R : Rc4a = .region [⟨some 69, .off 0 (.tmp 7), none⟩,
  ⟨some 70, .load false 1 (.tmp 69), none⟩,
  ⟨some 71, .un .not (.tmp 70), none⟩,
  ⟨some 72, .move (.tmp 71), none⟩,
  ⟨some 73, .off 2 (.tmp 3), (some (72, true))⟩,
  ⟨some 74, .load false 1 (.tmp 73), (some (72, true))⟩,
  ⟨some 75, .bin .neq (.tmp 74) (.const (.int .i64 0)), (some (72, true))⟩,
  ⟨some 76, .pick (.tmp 72) (.tmp 75) (.const (.bool false)), none⟩,
  ⟨some 68, .move (.tmp 76), none⟩] := rfl
  rw [R]
  cases hb0 : s.a <;> by_cases hc0 : x.a = 0 <;> simp [t3, t7, t1, t2, lx, ls, sMM, sMinMax, hb0, hc0] <;>
    (refine hQ _ ⟨by simp [t3], by simp [t7], by simp [t1], by simp [t2], lx0, ls0⟩ ?_; simp [hb0, hc0])
theorem pc4b {H : Heap} {t : Tm} {bx bs : Nat} {x : In} {s : Sh} {cells long : Int} (h : O1 H t bx bs x s cells long) {Q : Post}
    (hQ : ∀ t' : Tm, O1 H t' bx bs x s cells long → t' 68 = .bool (!s.b && decide (x.b ≠ 0)) → Q .normal t' (rdy H)) : wpA Tryz.prog Rc4b Q t (rdy H) := by
  obtain ⟨t3, t7, t1, t2, lx, ls⟩ := h
  have lx0 := lx
  have ls0 := ls
  simp only [rowI] at lx
  simp only [rowS] at ls
  have R : Rc4b = .region [⟨some 77, .off 1 (.tmp 7), none⟩,
  ⟨some 78, .load false 1 (.tmp 77), none⟩,
  ⟨some 79, .un .not (.tmp 78), none⟩,
  ⟨some 80, .move (.tmp 79), none⟩,
  ⟨some 81, .off 3 (.tmp 3), (some (80, true))⟩,
  ⟨some 82, .load false 1 (.tmp 81), (some (80, true))⟩,
  ⟨some 83, .bin .neq (.tmp 82) (.const (.int .i64 0)), (some (80, true))⟩,
  ⟨some 84, .pick (.tmp 80) (.tmp 83) (.const (.bool false)), none⟩,
  ⟨some 68, .move (.tmp 84), none⟩] := rfl
  rw [R]
  cases hb0 : s.b <;> by_cases hc0 : x.b = 0 <;> simp [t3, t7, t1, t2, lx, ls, sMM, sMinMax, hb0, hc0] <;>
    (refine hQ _ ⟨by simp [t3], by simp [t7], by simp [t1], by simp [t2], lx0, ls0⟩ ?_; simp [hb0, hc0])
theorem pc4c {H : Heap} {t : Tm} {bx bs : Nat} {x : In} {s : Sh} {cells long : Int} (h : O1 H t bx bs x s cells long) {Q : Post}
    (hQ : ∀ t' : Tm, O1 H t' bx bs x s cells long → t' 68 = .bool (!s.c && !s.cell && decide (x.c ≠ 0)) → Q .normal t' (rdy H)) : wpA Tryz.prog Rc4c Q t (rdy H) := by
  obtain ⟨t3, t7, t1, t2, lx, ls⟩ := h
  have lx0 := lx
  have ls0 := ls
  simp only [rowI] at lx
  simp only [rowS] at ls
  have R : Rc4c = .region [⟨some 85, .off 2 (.tmp 7), none⟩,
  ⟨some 86, .load false 1 (.tmp 85), none⟩,
  ⟨some 87, .un .not (.tmp 86), none⟩,
  ⟨some 88, .move (.tmp 87), none⟩,
  ⟨some 89, .off 3 (.tmp 7), (some (88, true))⟩,
  ⟨some 90, .load false 1 (.tmp 89), (some (88, true))⟩,
  ⟨some 91, .un .not (.tmp 90), (some (88, true))⟩,
  ⟨some 92, .pick (.tmp 88) (.tmp 91) (.const (.bool false)), none⟩,
  ⟨some 93, .move (.tmp 92), none⟩,
  ⟨some 94, .off 4 (.tmp 3), (some (93, true))⟩,
  ⟨some 95, .load false 1 (.tmp 94), (some (93, true))⟩,
  ⟨some 96, .bin .neq (.tmp 95) (.const (.int .i64 0)), (some (93, true))⟩,
  ⟨some 97, .pick (.tmp 93) (.tmp 96) (.const (.bool false)), none⟩,
  ⟨some 68, .move (.tmp 97), none⟩] := rfl
  rw [R]
  cases hb0 : s.c <;> cases hb1 : s.cell <;> by_cases hc0 : x.c = 0 <;> simp [t3, t7, t1, t2, lx, ls, sMM, sMinMax, hb0, hb1, hc0] <;>
    (refine hQ _ ⟨by simp [t3], by simp [t7], by simp [t1], by simp [t2], lx0, ls0⟩ ?_; simp [hb0, hb1, hc0])
theorem pc4k {H : Heap} {t : Tm} {bx bs : Nat} {x : In} {s : Sh} {cells long : Int} (h : O1 H t bx bs x s cells long) {Q : Post}
    (hQ : ∀ t' : Tm, O1 H t' bx bs x s cells long → t' 68 = .bool (!s.k && decide (x.k ≠ 0)) → Q .normal t' (rdy H)) : wpA Tryz.prog Rc4k Q t (rdy H) := by
  obtain ⟨t3, t7, t1, t2, lx, ls⟩ := h
  have lx0 := lx
  have ls0 := ls
  simp only [rowI] at lx
  simp only [rowS] at ls
  have R : Rc4k = .region [⟨some 98, .off 4 (.tmp 7), none⟩,
  ⟨some 99, .load false 1 (.tmp 98), none⟩,
  ⟨some 100, .un .not (.tmp 99), none⟩,
  ⟨some 101, .move (.tmp 100), none⟩,
  ⟨some 102, .off 5 (.tmp 3), (some (101, true))⟩,
  ⟨some 103, .load false 1 (.tmp 102), (some (101, true))⟩,
  ⟨some 104, .bin .neq (.tmp 103) (.const (.int .i64 0)), (some (101, true))⟩,
  ⟨some 105, .pick (.tmp 101) (.tmp 104) (.const (.bool false)), none⟩,
  ⟨some 68, .move (.tmp 105), none⟩] := rfl
  rw [R]
  cases hb0 : s.k <;> by_cases hc0 : x.k = 0 <;> simp [t3, t7, t1, t2, lx, ls, sMM, sMinMax, hb0, hc0] <;>
    (refine hQ _ ⟨by simp [t3], by simp [t7], by simp [t1], by simp [t2], lx0, ls0⟩ ?_; simp [hb0, hc0])
theorem pc4o {H : Heap} {t : Tm} {bx bs : Nat} {x : In} {s : Sh} {cells long : Int} (h : O1 H t bx bs x s cells long) {Q : Post}
    (hQ : ∀ t' : Tm, O1 H t' bx bs x s cells long → t' 68 = .bool (!s.one && !s.two && decide (x.op ≠ 0)) → Q .normal t' (rdy H)) : wpA Tryz.prog Rc4o Q t (rdy H) := by
  obtain ⟨t3, t7, t1, t2, lx, ls⟩ := h
  have lx0 := lx
  have ls0 := ls
  simp only [rowI] at lx
  simp only [rowS] at ls
  have R : Rc4o = .region [⟨some 106, .off 6 (.tmp 7), none⟩,
  ⟨some 107, .load false 1 (.tmp 106), none⟩,
  ⟨some 108, .un .not (.tmp 107), none⟩,
  ⟨some 109, .move (.tmp 108), none⟩,
  ⟨some 110, .off 7 (.tmp 7), (some (109, true))⟩,
  ⟨some 111, .load false 1 (.tmp 110), (some (109, true))⟩,
  ⟨some 112, .un .not (.tmp 111), (some (109, true))⟩,
  ⟨some 113, .pick (.tmp 109) (.tmp 112) (.const (.bool false)), none⟩,
  ⟨some 114, .move (.tmp 113), none⟩,
  ⟨some 115, .off 1 (.tmp 3), (some (114, true))⟩,
  ⟨some 116, .load false 1 (.tmp 115), (some (114, true))⟩,
  ⟨some 117, .bin .neq (.tmp 116) (.const (.int .i64 0)), (some (114, true))⟩,
  ⟨some 118, .pick (.tmp 114) (.tmp 117) (.const (.bool false)), none⟩,
  ⟨some 68, .move (.tmp 118), none⟩] := rfl
  rw [R]
  cases hb0 : s.one <;> cases hb1 : s.two <;> by_cases hc0 : x.op = 0 <;> simp [t3, t7, t1, t2, lx, ls, sMM, sMinMax, hb0, hb1, hc0] <;>
    (refine hQ _ ⟨by simp [t3], by simp [t7], by simp [t1], by simp [t2], lx0, ls0⟩ ?_; simp [hb0, hb1, hc0])
theorem pc5 {H : Heap} {t : Tm} {bx bs : Nat} {x : In} {s : Sh} {cells long : Int} (h : O1 H t bx bs x s cells long) {Q : Post}
    (hQ : ∀ t' : Tm, O1 H t' bx bs x s cells long → t' 119 = .bool (s.cell && (decide (x.c < 0) || decide ((if 4 < cells then 4 else cells) ≤ x.c))) → Q .normal t' (rdy H)) : wpA Tryz.prog Rc5 Q t (rdy H) := by
  obtain ⟨t3, t7, t1, t2, lx, ls⟩ := h
  have lx0 := lx
  have ls0 := ls
  simp only [rowI] at lx
  simp only [rowS] at ls
  have R : Rc5 = .region [⟨some 120, .off 3 (.tmp 7), none⟩,
  ⟨some 121, .load false 1 (.tmp 120), none⟩,
  ⟨some 122, .move (.tmp 121), none⟩,
  ⟨some 123, .off 4 (.tmp 3), (some (122, true))⟩,
  ⟨some 124, .load false 1 (.tmp 123), (some (122, true))⟩,
  ⟨some 125, .bin .lss (.tmp 124) (.const (.int .i64 0)), (some (122, true))⟩,
  ⟨some 126, .move (.tmp 125), (some (122, true))⟩,
  ⟨some 127, .off 4 (.tmp 3), (some (126, false))⟩,
  ⟨some 128, .load false 1 (.tmp 127), (some (126, false))⟩,
  ⟨some 129, .move (.tmp 1), (some (126, false))⟩,
  ⟨some 130, .minmax false (.tmp 129) [.const (.int .i64 4)], (some (126, false))⟩,
  ⟨some 131, .bin .geq (.tmp 128) (.tmp 130), (some (126, false))⟩,
  ⟨some 132, .pick (.tmp 126) (.const (.bool true)) (.tmp 131), (some (122, true))⟩,
  ⟨some 133, .pick (.tmp 122) (.tmp 132) (.const (.bool false)), none⟩,
  ⟨some 119, .move (.tmp 133), none⟩] := rfl
  rw [R]
  cases hb0 : s.cell <;> by_cases hc0 : x.c < 0 <;> by_cases hc1 : 4 < cells <;> simp [t3, t7, t1, t2, lx, ls, sMM, sMinMax, hb0, hc0, hc1] <;>
    (refine hQ _ ⟨by simp [t3], by simp [t7], by simp [t1], by simp [t2], lx0, ls0⟩ ?_; simp [hb0, hc0, hc1])
theorem pc6 {H : Heap} {t : Tm} {bx bs : Nat} {x : In} {s : Sh} {cells long : Int} (h : O1 H t bx bs x s cells long) {Q : Post}
    (hQ : ∀ t' : Tm, O1 H t' bx bs x s cells long → t' 134 = .bool (s.target && (decide (x.k < 0) || decide (long ≤ x.k))) → Q .normal t' (rdy H)) : wpA Tryz.prog Rc6 Q t (rdy H) := by
  obtain ⟨t3, t7, t1, t2, lx, ls⟩ := h
  have lx0 := lx
  have ls0 := ls
  simp only [rowI] at lx
  simp only [rowS] at ls
  have R : Rc6 = .region [⟨some 135, .off 5 (.tmp 7), none⟩,
  ⟨some 136, .load false 1 (.tmp 135), none⟩,
  ⟨some 137, .move (.tmp 136), none⟩,
  ⟨some 138, .off 5 (.tmp 3), (some (137, true))⟩,
  ⟨some 139, .load false 1 (.tmp 138), (some (137, true))⟩,
  ⟨some 140, .bin .lss (.tmp 139) (.const (.int .i64 0)), (some (137, true))⟩,
  ⟨some 141, .move (.tmp 140), (some (137, true))⟩,
  ⟨some 142, .off 5 (.tmp 3), (some (141, false))⟩,
  ⟨some 143, .load false 1 (.tmp 142), (some (141, false))⟩,
  ⟨some 144, .move (.tmp 2), (some (141, false))⟩,
  ⟨some 145, .bin .geq (.tmp 143) (.tmp 144), (some (141, false))⟩,
  ⟨some 146, .pick (.tmp 141) (.const (.bool true)) (.tmp 145), (some (137, true))⟩,
  ⟨some 147, .pick (.tmp 137) (.tmp 146) (.const (.bool false)), none⟩,
  ⟨some 134, .move (.tmp 147), none⟩] := rfl
  rw [R]
  cases hb0 : s.target <;> by_cases hc0 : x.k < 0 <;> by_cases hc1 : long ≤ x.k <;> simp [t3, t7, t1, t2, lx, ls, sMM, sMinMax, hb0, hc0, hc1] <;>
    (refine hQ _ ⟨by simp [t3], by simp [t7], by simp [t1], by simp [t2], lx0, ls0⟩ ?_; simp [hb0, hc0, hc1])
def c2V (s : Sh) (x : In) : Bool := (s.two && (decide (x.op < 1) || decide (18 < x.op))) || (s.one && (decide (x.op < 19) || decide (21 < x.op)))
def c3V (s : Sh) (x : In) : Bool := (s.a && badR x.a) || (s.b && badR x.b) || (s.c && badR x.c)
def c4V (s : Sh) (x : In) : Bool := (!s.a && decide (x.a ≠ 0)) || (!s.b && decide (x.b ≠ 0)) || (!s.c && !s.cell && decide (x.c ≠ 0)) || (!s.k && decide (x.k ≠ 0)) || (!s.one && !s.two && decide (x.op ≠ 0))
def c5V (s : Sh) (x : In) (cells : Int) : Bool := s.cell && (decide (x.c < 0) || decide ((if 4 < cells then 4 else cells) ≤ x.c))
def c6V (s : Sh) (x : In) (long : Int) : Bool := s.target && (decide (x.k < 0) || decide (long ≤ x.k))
def oneV (x : In) (cells long : Int) : Int :=
  if valid x.kind = false then 81 else if c2V (shp x.kind) x = true then 81 else if c3V (shp x.kind) x = true then 82 else if c4V (shp x.kind) x = true then 83 else if c5V (shp x.kind) x cells = true then 63 else if c6V (shp x.kind) x long = true then 84 else 0
theorem L11_eq : L119 = .seq (.region [⟨some 3, .box 113 6 (.tmp 0), none⟩, ⟨some 6, .move (.const (.int .i64 0)), none⟩]) (.seq (.region [⟨some 10, .off 0 (.tmp 3), none⟩, ⟨some 11, .load false 1 (.tmp 10), none⟩, ⟨some 12, .call 114 [.tmp 11], none⟩, ⟨some 9, .move (.tmp 12), none⟩, ⟨some 13, .extract (.tmp 9) 0, none⟩, ⟨some 14, .extract (.tmp 9) 1, none⟩, ⟨some 7, .new 219 8 [.bool false, .bool false, .bool false, .bool false, .bool false, .bool false, .bool false, .bool false], none⟩, ⟨none, .store 8 (.tmp 7) (.tmp 13), none⟩, ⟨some 8, .move (.tmp 14), none⟩]) (.seq (.block 0 (.seq (.region [⟨some 16, .move (.tmp 8), none⟩, ⟨some 17, .un .not (.tmp 16), none⟩, ⟨some 15, .move (.tmp 17), none⟩]) (.cond (.tmp 15) (.seq (.region [⟨some 6, .move (.const (.int .i64 81)), none⟩]) (.ret)) B11))) (.seq (.region [⟨some 6, .move (.const (.int .i64 0)), none⟩]) (.ret)))) := rfl
theorem rule2 {H : Heap} {t : Tm} {bx bs : Nat} {x : In} {s : Sh} {cells long : Int} (h : O1 H t bx bs x s cells long) {Q : Post}
    (hQ : ∀ t' : Tm, O1 H t' bx bs x s cells long → t' 18 = .bool (c2V s x) → Q .normal t' (rdy H)) : wpA Tryz.prog (.seq Rc2a (.cond (.tmp 18) .skip Rc2b)) Q t (rdy H) := by
  rw [wpA_seq]
  refine pc2a h fun t1 h1 e1 => ?_
  rw [thenA_normal, wpA_cond, ev_tmp, e1]
  cases hv : (s.two && (decide (x.op < 1) || decide (18 < x.op))) with
  | true =>
    rw [goC_true, wpA_skip]
    exact hQ t1 h1 (by rw [e1, c2V, hv]; rfl)
  | false =>
    rw [goC_false]
    exact pc2b h1 fun t2 h2 e2 => hQ t2 h2 (by rw [e2, c2V, hv]; rfl)
theorem rule3 {H : Heap} {t : Tm} {bx bs : Nat} {x : In} {s : Sh} {cells long : Int} (h : O1 H t bx bs x s cells long) {Q : Post}
    (hQ : ∀ t' : Tm, O1 H t' bx bs x s cells long → t' 43 = .bool (c3V s x) → Q .normal t' (rdy H)) : wpA Tryz.prog (.seq Rc3a (.cond (.tmp 43) .skip (.seq Rc3b (.cond (.tmp 43) .skip Rc3c)))) Q t (rdy H) := by
  rw [wpA_seq]
  refine pc3a h fun t1 h1 e1 => ?_
  rw [thenA_normal, wpA_cond, ev_tmp, e1]
  cases hv : (s.a && badR x.a) with
  | true =>
    rw [goC_true, wpA_skip]
    exact hQ t1 h1 (by rw [e1, c3V, hv]; rfl)
  | false =>
    rw [goC_false, wpA_seq]
    refine pc3b h1 fun t2 h2 e2 => ?_
    rw [thenA_normal, wpA_cond, ev_tmp, e2]
    cases hv2 : (s.b && badR x.b) with
    | true =>
      rw [goC_true, wpA_skip]
      exact hQ t2 h2 (by rw [e2, c3V, hv, hv2]; rfl)
    | false =>
      rw [goC_false]
      exact pc3c h2 fun t3 h3 e3 => hQ t3 h3 (by rw [e3, c3V, hv, hv2]; rfl)
theorem rule4 {H : Heap} {t : Tm} {bx bs : Nat} {x : In} {s : Sh} {cells long : Int} (h : O1 H t bx bs x s cells long) {Q : Post}
    (hQ : ∀ t' : Tm, O1 H t' bx bs x s cells long → t' 68 = .bool (c4V s x) → Q .normal t' (rdy H)) :
    wpA Tryz.prog (.seq Rc4a (.cond (.tmp 68) .skip (.seq Rc4b (.cond (.tmp 68) .skip (.seq Rc4c (.cond (.tmp 68) .skip (.seq Rc4k (.cond (.tmp 68) .skip Rc4o)))))))) Q t (rdy H) := by
  rw [wpA_seq]
  refine pc4a h fun t1 h1 e1 => ?_
  rw [thenA_normal, wpA_cond, ev_tmp, e1]
  cases hv : (!s.a && decide (x.a ≠ 0)) with
  | true =>
    rw [goC_true, wpA_skip]
    exact hQ t1 h1 (by rw [e1, c4V, hv]; rfl)
  | false =>
    rw [goC_false, wpA_seq]
    refine pc4b h1 fun t2 h2 e2 => ?_
    rw [thenA_normal, wpA_cond, ev_tmp, e2]
    cases hv2 : (!s.b && decide (x.b ≠ 0)) with
    | true =>
      rw [goC_true, wpA_skip]
      exact hQ t2 h2 (by rw [e2, c4V, hv, hv2]; rfl)
    | false =>
      rw [goC_false, wpA_seq]
      refine pc4c h2 fun t3 h3 e3 => ?_
      rw [thenA_normal, wpA_cond, ev_tmp, e3]
      cases hv3 : (!s.c && !s.cell && decide (x.c ≠ 0)) with
      | true =>
        rw [goC_true, wpA_skip]
        exact hQ t3 h3 (by rw [e3, c4V, hv, hv2, hv3]; rfl)
      | false =>
        rw [goC_false, wpA_seq]
        refine pc4k h3 fun t4 h4 e4 => ?_
        rw [thenA_normal, wpA_cond, ev_tmp, e4]
        cases hv4 : (!s.k && decide (x.k ≠ 0)) with
        | true =>
          rw [goC_true, wpA_skip]
          exact hQ t4 h4 (by rw [e4, c4V, hv, hv2, hv3, hv4]; rfl)
        | false =>
          rw [goC_false]
          exact pc4o h4 fun t5 h5 e5 => hQ t5 h5 (by rw [e5, c4V, hv, hv2, hv3, hv4]; rfl)
theorem fail_w {H : Heap} {t : Tm} (c : Int) {Q : Post} (hQ : ∀ t' : Tm, t' 6 = iv c → Q .ret t' (rdy H)) : wpA Tryz.prog (fail c) Q t (rdy H) := by
  simp [fail]
  exact hQ _ (by simp)
theorem f1_w {H : Heap} {t : Tm} {d : Nat} {c : Int} {r : LCode} {v : Bool} (hd : t d = .bool v) {Q : Post} (h1 : v = true → ∀ t' : Tm, t' 6 = iv c → Q .ret t' (rdy H)) (h2 : v = false → wpA Tryz.prog r Q t (rdy H)) : wpA Tryz.prog (F1 d c r) Q t (rdy H) := by
  unfold F1
  rw [wpA_cond, ev_tmp, hd]
  cases v with
  | true => rw [goC_true]; exact fail_w c (h1 rfl)
  | false => rw [goC_false]; exact h2 rfl
theorem b11 {H : Heap} {t : Tm} {bx bs : Nat} {x : In} {s : Sh} {cells long : Int} (h : O1 H t bx bs x s cells long) {Q : Post}
    (hf : ∀ (t' : Tm) (c : Int), c ≠ 0 → c = (if c2V s x = true then 81 else if c3V s x = true then 82 else if c4V s x = true then 83 else if c5V s x cells = true then 63 else if c6V s x long = true then 84 else 0) → t' 6 = iv c → Q .ret t' (rdy H))
    (hn : ∀ t' : Tm, (if c2V s x = true then (81 : Int) else if c3V s x = true then 82 else if c4V s x = true then 83 else if c5V s x cells = true then 63 else if c6V s x long = true then 84 else 0) = 0 → Q .normal t' (rdy H)) : wpA Tryz.prog B11 Q t (rdy H) := by
  rw [B11_eq, wpA_seq]
  refine rule2 h fun t1 h1 e1 => ?_
  rw [thenA_normal]
  refine f1_w e1 (fun hv t' h6 => ?_) (fun hv1 => ?_)
  · exact hf t' 81 (by decide) (by rw [if_pos hv]) h6
  rw [wpA_seq]
  refine rule3 h1 fun t2 h2 e2 => ?_
  rw [thenA_normal]
  refine f1_w e2 (fun hv t' h6 => ?_) (fun hv2 => ?_)
  · exact hf t' 82 (by decide) (by rw [if_neg (by simp [hv1]), if_pos hv]) h6
  rw [wpA_seq]
  refine rule4 h2 fun t3 h3 e3 => ?_
  rw [thenA_normal]
  refine f1_w e3 (fun hv t' h6 => ?_) (fun hv3 => ?_)
  · exact hf t' 83 (by decide) (by rw [if_neg (by simp [hv1]), if_neg (by simp [hv2]), if_pos hv]) h6
  rw [wpA_seq]
  refine pc5 h3 fun t4 h4 e4 => ?_
  rw [thenA_normal]
  refine f1_w e4 (fun hv t' h6 => ?_) (fun hv4 => ?_)
  · exact hf t' 63 (by decide) (by rw [if_neg (by simp [hv1]), if_neg (by simp [hv2]), if_neg (by simp [hv3]), if_pos (show c5V s x cells = true from hv)]) h6
  rw [wpA_seq]
  refine pc6 h4 fun t5 h5 e5 => ?_
  rw [thenA_normal]
  refine f1_w e5 (fun hv t' h6 => ?_) (fun hv5 => ?_)
  · exact hf t' 84 (by decide) (by rw [if_neg (by simp [hv1]), if_neg (by simp [hv2]), if_neg (by simp [hv3]), if_neg (show ¬ c5V s x cells = true by rw [show c5V s x cells = false from hv4]; simp), if_pos (show c6V s x long = true from hv)]) h6
  rw [wpA_skip]
  refine hn t5 ?_
  rw [if_neg (by simp [hv1]), if_neg (by simp [hv2]), if_neg (by simp [hv3]), if_neg (show ¬ c5V s x cells = true by rw [show c5V s x cells = false from hv4]; simp), if_neg (show ¬ c6V s x long = true by rw [show c6V s x long = false from hv5]; simp)]
theorem one_T {H : Heap} (hw : H.WF) (x : In) (cells long : Int) : ∃ v H', T Tryz.prog 119 [.agg (rowI x).toArray, iv cells, iv long] H v H' ∧ v = iv (oneV x cells long) ∧ Same H H' [] := by
  refine T_by hm light119 ?_
  have hnB := hw.next_ge
  obtain ⟨H1, hH1⟩ : ∃ H1, H1 = H.new 113 6 (rowI x) := ⟨_, rfl⟩
  have w1 : H1.WF := by rw [hH1]; exact WF_new hw _ _ _
  have l1 : ∀ j, H1.load ⟨H.next, j, none⟩ = (rowI x)[j]? := by rw [hH1]; exact new_load hw 113 6 (rowI x)
  have n1 : H1.next = H.next + 1 := by rw [hH1]; rfl
  have k1 : ∀ b, b < H.next → H1.blk b = H.blk b := fun b hb => by rw [hH1]; simp [show b ≠ H.next by omega]
  obtain ⟨v2, H2, T2, rfl, s2⟩ := shape_T w1 x.kind
  have w2 := T2.grow.wf w1
  have n2 := T2.grow.next
  have st3 := new_storeA w2 219 8 [.bool false, .bool false, .bool false, .bool false, .bool false, .bool false, .bool false, .bool false] (rowS (shp x.kind)) rfl rfl (by decide)
  obtain ⟨H3, hH3⟩ : ∃ H3, H3 = H2.new 219 8 (rowS (shp x.kind)) := ⟨_, rfl⟩
  rw [← hH3] at st3
  have k3 : ∀ b, b < H1.next → H3.blk b = H1.blk b := fun b hb => by rw [hH3]; simp [show b ≠ H2.next by omega]; exact s2 b hb (by simp)
  have b3 : H3.base = H1.base := by rw [hH3]; exact T2.1
  have lx : ∀ j, H3.load ⟨H.next, j, none⟩ = (rowI x)[j]? := fun j => by rw [load_frame b3 (k3 _ (by omega))]; exact l1 j
  have ls : ∀ j, H3.load ⟨H2.next, j, none⟩ = (rowS (shp x.kind))[j]? := by rw [hH3]; exact new_load w2 219 8 (rowS (shp x.kind))
  have sm : Same H H3 [] := fun b hb _ => (k3 b (by omega)).trans (k1 b hb)
  obtain ⟨r, hr⟩ : ∃ r, r = oneV x cells long := ⟨_, rfl⟩
  rw [← hr]
  unfold oneV at hr
  obtain ⟨s, hs⟩ : ∃ s, s = shp x.kind := ⟨_, rfl⟩
  obtain ⟨va, hva⟩ : ∃ va, va = valid x.kind := ⟨_, rfl⟩
  rw [← hs, ← hva] at hr
  rw [← hs] at st3 T2 ls
  rw [← hva] at T2
  have lk : H1.load ⟨H.next, 0, none⟩ = some (iv x.kind) := l1 0
  rw [L11_eq]
  simp
  refine ⟨rfl, ?_⟩
  rw [← hH1]
  simp [lk]
  refine goT_of T2 ?_
  simp [st3]
  cases va with
  | false =>
    rw [if_pos rfl] at hr
    subst hr
    simp
    exact sm
  | true =>
    rw [if_neg (by simp)] at hr
    simp
    refine b11 (bx := H.next) (bs := H2.next) (x := x) (s := s) (cells := cells) (long := long) ⟨by simp, by simp, by simp, by simp, lx, ls⟩ (fun t' c h0 hc h6 => ?_) (fun t' h0 => ?_)
    · rw [← hr] at hc
      subst hc
      simp [h6]
      exact sm
    · rw [← hr] at h0
      subst h0
      simp
      exact sm
def fallsV (k : Int) : Bool := decide (k ≠ 1) && decide (k ≠ 10) && decide (k ≠ 13)
theorem falls_T {H : Heap} (hw : H.WF) (x : In) : ∃ v H', T Tryz.prog 120 [.agg (rowI x).toArray] H v H' ∧ v = .bool (fallsV x.kind) ∧ Same H H' [] := falls_T0 hw x
def fstBad (cells long : Int) : List In → Nat → Option (Nat × Int)
  | [], _ => none
  | x :: l, i => if oneV x cells long = 0 then fstBad cells long l (i + 1) else some (i, oneV x cells long)
def lastK (l : List In) : Int := match l.getLast? with | some x => x.kind | none => 0
def checkV (l : List In) (cells : Int) : Int × Int :=
  if l.length = 0 ∨ 600 < l.length then (0, 80) else match fstBad cells l.length l 0 with
    | some (i, e) => ((i : Int), e)
    | none => if fallsV (lastK l) = true then ((l.length : Int) - 1, 85) else (0, 0)
def InvCk (H : Heap) (x : Value) (l : List In) (cells : Int) (k : Nat) (t : Tm) (H1 : Heap) : Prop :=
  ∃ i : Nat, i + k = l.length ∧ t 0 = x ∧ t 1 = iv cells ∧ t 18 = x ∧ t 19 = iv (l.length : Nat) ∧ t 20 = iv i ∧ fstBad cells l.length (l.drop i) i = fstBad cells l.length l 0 ∧ H1.WF ∧ H1.base = H.base ∧ H.next ≤ H1.next ∧ ∀ b, b < H.next → H1.blk b = H.blk b
theorem last_row {l : List In} (h : 0 < l.length) : lastK l = (l[l.length - 1]'(by omega)).kind := by
  unfold lastK
  rw [List.getLast?_eq_getElem?, List.getElem?_eq_getElem (by omega)]
theorem check_T {H : Heap} (hw : H.WF) {x : Value} {l : List In} (hx : Rws H 6 x (l.map rowI)) (cells : Int) :
    ∃ v H', T Tryz.prog 87 [x, iv cells] H v H' ∧ v = .tuple #[iv (checkV l cells).1, iv (checkV l cells).2] ∧ Same H H' [] := by
  refine T_by hm light87 ?_
  obtain ⟨xa, xc, hxl⟩ := hx.len
  rw [List.length_map] at hxl
  obtain ⟨r, hr⟩ : ∃ r, r = checkV l cells := ⟨_, rfl⟩
  rw [← hr]
  unfold checkV at hr
  by_cases h0 : l.length = 0
  · rw [if_pos (.inl h0)] at hr
    subst hr
    rw [hxl]
    simp [L87, h0, packV, Same.refl]
  by_cases h6 : 600 < l.length
  · rw [if_pos (.inr h6)] at hr
    subst hr
    rw [hxl]
    simp [L87, h0, h6, packV, Same.refl]
  rw [if_neg (by omega)] at hr
  rw [hxl]
  simp [L87, h0, h6]
  rw [← hxl]
  refine loop_at (InvCk H x l cells) l.length ?_ ?_
  · exact ⟨0, by omega, by simp [hxl], by simp, by simp, by simp, by simp, rfl, hw, rfl, Nat.le_refl _, fun _ _ => rfl⟩
  · rintro k t H1 ⟨i, hik, t0, t1, t18, t19, t20, hf, w1, b1, n1, o1⟩
    cases k with
    | succ k =>
      have hi : i < l.length := by omega
      obtain ⟨b, off, c, hxs, hlen, ld, _⟩ := (hx.keep hw b1 o1).at (i := i) (by simpa using hi)
      simp only [List.getElem_map, List.length_map] at hxs hlen ld
      have e3 : IntKind.i64.wrap ((i : Int) + 1) = ((i + 1 : Nat) : Int) := by rw [w64 _ (by omega)]; omega
      obtain ⟨i1, hi1⟩ : ∃ i1, i1 = i + 1 := ⟨_, rfl⟩
      rw [← hi1] at e3
      have st := new_storeA w1 113 6 [.int .i64 0, .int .i64 0, .int .i64 0, .int .i64 0, .int .i64 0, .int .i64 0] (rowI l[i]) rfl rfl (by decide)
      have lda := new_loadA w1 113 6 (rowI l[i]) rfl
      obtain ⟨H2, hH2⟩ : ∃ H2, H2 = H1.new 113 6 (rowI l[i]) := ⟨_, rfl⟩
      have w2 : H2.WF := by rw [hH2]; exact WF_new w1 _ _ _
      have n2 : H2.next = H1.next + 1 := by rw [hH2]; rfl
      have b2 : H2.base = H.base := by rw [hH2]; exact b1
      have o2 : ∀ b, b < H.next → H2.blk b = H.blk b := fun b hb => by rw [hH2]; simp [show b ≠ H1.next by omega]; exact o1 b hb
      rw [← hH2] at st lda
      obtain ⟨v3, H3, T3, rfl, s3⟩ := one_T w2 l[i] cells l.length
      have n3 := T3.grow.next
      have o3 : ∀ b, b < H.next → H3.blk b = H.blk b := fun b hb => (s3 b (by omega) (by simp)).trans (o2 b hb)
      rw [List.drop_eq_getElem_cons hi] at hf
      simp only [fstBad] at hf
      obtain ⟨e, he⟩ : ∃ e, e = oneV l[i] cells l.length := ⟨_, rfl⟩
      rw [← he] at T3 hf
      simp [L87_1, t0, t1, t18, t19, t20, hxs, hi, ld, st, lda]
      refine goT_of T3 ?_
      by_cases hz : e = 0
      · rw [if_pos hz] at hf
        have hz' : (e != 0) = false := by simp [hz]
        simp [hz', t20, e3]
        refine ⟨k, Nat.lt_succ_self k, i1, by omega, by simp [t0, hxs], by simp [t1], by simp [t18, hxs], by simp [t19], by simp, by rw [hi1]; exact hf, T3.grow.wf w2, T3.1.trans b2, by simp; omega, o3⟩
      · rw [if_neg hz] at hf
        rw [← hf] at hr
        simp only at hr
        subst hr
        have hz' : (e != 0) = true := by simp [hz]
        simp [hz', packV]
        exact fun b hb _ => o3 b hb
    | zero =>
      have ei : i = l.length := by omega
      subst ei
      rw [List.drop_length] at hf
      simp only [fstBad] at hf
      rw [← hf] at hr
      simp only at hr
      have hl1 : l.length - 1 < l.length := by omega
      obtain ⟨b, off, c, hxs, hlen, ld, _⟩ := (hx.keep hw b1 o1).at (i := l.length - 1) (by simpa using hl1)
      simp only [List.getElem_map, List.length_map] at hxs hlen ld
      obtain ⟨v3, H3, T3, rfl, s3⟩ := falls_T w1 l[l.length - 1]
      rw [← last_row (by omega)] at T3
      have o3 : ∀ b, b < H.next → H3.blk b = H.blk b := fun b hb => (s3 b (by omega) (by simp)).trans (o1 b hb)
      obtain ⟨q, hq⟩ : ∃ q, q = l.length - 1 := ⟨_, rfl⟩
      have e4 : IntKind.i64.wrap ((l.length : Int) - 1) = (q : Int) := by rw [w64 _ (by omega)]; omega
      have e5 : (l.length : Int) - 1 = (q : Int) := by omega
      have hql : q < l.length := by omega
      rw [hxs] at t0
      have ld' : H1.loadN ⟨b, off + q * 6, none⟩ 0 6 = some (rowI l[l.length - 1]) := by rw [hq]; exact ld
      rw [e5] at hr
      simp [L87_1, t0, t19, t20, e4, hql, ld']
      refine goT_of T3 ?_
      cases hfa : fallsV (lastK l) with
      | true =>
        rw [hfa, if_pos rfl] at hr
        subst hr
        simp [packV]
        exact fun b hb _ => o3 b hb
      | false =>
        rw [hfa, if_neg (by simp)] at hr
        subst hr
        simp [packV]
        exact fun b hb _ => o3 b hb
end Go.Proofs.YtnomffikflfilaaGreat.I8
