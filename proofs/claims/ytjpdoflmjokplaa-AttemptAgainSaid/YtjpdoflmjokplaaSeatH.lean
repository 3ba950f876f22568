/-
  Chapter 22: the document's log as a value; where a word's read and write stand. Reductions (carried over from another chapter's proof).
-/
import Derived.Test.YtjpdoflmjokplaaSeatF
namespace Go.Proofs.Ytjpdoflmjokplaa
open Go.Ot Go.RowKit
set_option linter.unusedSimpArgs false
set_option linter.unusedVariables false
/-- A later heap: what was there stands as it stood. -/
structure Xt (H0 H : Heap) : Prop where
  base : H.base = H0.base
  next : H0.next ≤ H.next
  wf0 : H0.WF
  wf : H.WF
  old : ∀ b, b < H0.next → H.blk b = H0.blk b
theorem Xt.refl {H : Heap} (hw : H.WF) : Xt H H := ⟨rfl, Nat.le_refl _, hw, hw, fun _ _ => rfl⟩
theorem Xt.trans {H0 H H2 : Heap} (h : Xt H0 H) (g : Xt H H2) : Xt H0 H2 := ⟨g.base.trans h.base, Nat.le_trans h.next g.next, h.wf0, g.wf, fun b hb => (g.old b (Nat.lt_of_lt_of_le hb h.next)).trans (h.old b hb)⟩
theorem Xt.new {H0 H : Heap} (h : Xt H0 H) (ty sz : Nat) (c : List Value) : Xt H0 (H.new ty sz c) :=
  ⟨h.base, Nat.le_trans h.next (by simp), h.wf0, WF_new h.wf _ _ _, fun b hb => by have := h.next; simp [show b ≠ H.next by omega, h.old b hb]⟩
theorem Xt.put {H0 H : Heap} (h : Xt H0 H) {p : Nat} (hp : H0.next ≤ p) (c : List Value) : Xt H0 (H.put p c) :=
  ⟨by simpa using h.base, by simpa using h.next, h.wf0, WF_put h.wf _ _, fun b hb => by simp [show b ≠ p by omega, h.old b hb]⟩
theorem Xt.call {H0 H H' : Heap} (h : Xt H0 H) {f : FuncId} {args : List Value} {v : Value} (hT : T Try.prog f args H v H') (hs : Same H H' []) : Xt H0 H' :=
  ⟨hT.1.trans h.base, Nat.le_trans h.next hT.grow.next, h.wf0, hT.grow.wf h.wf, fun b hb => (hs b (Nat.lt_of_lt_of_le hb h.next) (by simp)).trans (h.old b hb)⟩
theorem Xt.same {H0 H : Heap} (h : Xt H0 H) : Same H0 H [] := fun b hb _ => h.old b hb
/-- A variable. -/
structure Vr (G : Heap) (q ty n : Nat) (cs : List Value) : Prop where
  hq : ¬ q < G.B
  bq : G.blk q = some ⟨ty, n, cs⟩
  hn : 0 < n
theorem Vr.mk' {G : Heap} (hw : G.WF) (ty n : Nat) (cs : List Value) (hn : 0 < n := by decide) : Vr (G.new ty n cs) G.next ty n cs := ⟨by simpa using hw.next_ge, by simp, hn⟩
theorem Vr.new {G : Heap} (hw : G.WF) {q ty n : Nat} {cs : List Value} (h : Vr G q ty n cs) (ty' sz : Nat) (c : List Value) : Vr (G.new ty' sz c) q ty n cs :=
  ⟨by simpa using h.hq, by have := hw.lt h.bq; simp [show q ≠ G.next by omega, h.bq], h.hn⟩
theorem Vr.beside {G : Heap} {q ty n : Nat} {cs : List Value} (h : Vr G q ty n cs) {r : Nat} (hr : q ≠ r) (c : List Value) : Vr (G.put r c) q ty n cs := ⟨by simpa using h.hq, by simp [hr, h.bq], h.hn⟩
theorem Vr.put {G : Heap} {q ty n : Nat} {cs : List Value} (h : Vr G q ty n cs) (c : List Value) : Vr (G.put q c) q ty n c := ⟨by simpa using h.hq, by simp [h.bq], h.hn⟩
theorem Vr.keep {G G' : Heap} {q ty n : Nat} {cs : List Value} (h : Vr G q ty n cs) (hb : G'.base = G.base) (hk : G'.blk q = G.blk q) : Vr G' q ty n cs := ⟨by rw [B_eq hb]; exact h.hq, by rw [hk]; exact h.bq, h.hn⟩
theorem Vr.load {G : Heap} {q ty n : Nat} {cs : List Value} (h : Vr G q ty n cs) (j : Nat) : G.load ⟨q, j, none⟩ = cs[j]? := load_at h.hq h.bq h.hn
theorem Vr.store {G : Heap} {q ty n : Nat} {cs : List Value} (h : Vr G q ty n cs) (j : Nat) (v : Value) (hj : j < cs.length) : G.store ⟨q, j, none⟩ v = some (G.put q (cs.set j v)) := by
  rw [store_own h.hq h.bq h.hn, if_pos (by simpa using hj)]
theorem Vr.loadA {G : Heap} {q ty n m : Nat} {cs : List Value} (h : Vr G q ty n cs) (hm : cs.length = m) : G.loadN ⟨q, 0, none⟩ 0 m = some cs := by
  rw [loadN_at h.hq h.bq (by simp; omega) h.hn]
  simp [← hm]
theorem Vr.storeA {G : Heap} {q ty n : Nat} {cs : List Value} (h : Vr G q ty n cs) {m : Nat} (hm : 0 < m) (row : List Value) (hr : row.length = m) (hc : cs.length = m) : sStore G m (ptr q) (.agg row.toArray) = some (G.put q row) := by
  rw [sStore_agg _ _ _ _ hr hm, storeN_at h.hq h.bq (by simp; omega) h.hn]
  simp [hr]
  rw [List.drop_of_length_le (by omega), List.append_nil]
theorem Xt.vr {H0 H : Heap} (h : Xt H0 H) {q ty n : Nat} {cs : List Value} (v : Vr H0 q ty n cs) : Vr H q ty n cs := v.keep h.base (h.old q (h.wf0.lt v.bq))
theorem Xt.rws {H0 H : Heap} (h : Xt H0 H) {sz : Nat} {x : Value} {l : List (List Value)} (hx : Rws H0 sz x l) : Rws H sz x l := hx.keep h.wf0 h.base h.old
theorem Xt.ints {H0 H : Heap} (h : Xt H0 H) {k : IntKind} {x : Value} {l : List Int} (hx : Ints H0 k x l) : Ints H k x l := hx.keep h.wf0 h.base h.old
/-- The document's log. -/
structure DL where
  mr : Int
  mw : Int
  mo : Int
  xd : Value
  xr : Value
  xw : Value
  xo : Value
  xi : Value
def dl (d : DL) : List Value := [iv d.mr, iv d.mw, iv d.mo, d.xd, d.xr, d.xw, d.xo, d.xi]
abbrev dA (d : DL) : Value := .agg (dl d).toArray
def InvRr (H : Heap) (pv : Nat) (l : List (List Value)) (a : Int) (k : Nat) (t : Tm) (H1 : Heap) : Prop :=
  ∃ i : Nat, i + k = l.length ∧ t 1 = iv a ∧ t 2 = ptr pv ∧ t 5 = iv i ∧ H1 = H ∧ ∀ j (h : j < l.length), j < i → isAt a l[j] = false
theorem isAt_row3 (a : Int) (r : R3) : isAt a (row3 r) = (r.1 == a) := rfl
theorem isAt_row2 (a : Int) (r : Int × Int) : isAt a (row2 r) = (r.1 == a) := rfl
theorem refRead_T {H : Heap} (hw : H.WF) (d : DL) {rs : List R3} (hx : Rws H 3 d.xr (rs.map row3)) (a : Int) (hl : rs.length ≤ 1000) : ∃ v H', T Try.prog 39 [dA d, iv a] H v H' ∧ v = iv (rIdx a rs) ∧ Same H H' [] := by
  refine T_by hm light39 ?_
  have V1 := Vr.mk' hw 44 8 (dl d)
  have X1 := (Xt.refl hw).new 44 8 (dl d)
  obtain ⟨H1, hH1⟩ : ∃ H1, H1 = H.new 44 8 (dl d) := ⟨_, rfl⟩
  rw [← hH1] at V1 X1
  have hx1 := X1.rws hx
  have ld : H1.load ⟨H.next, 4, none⟩ = some d.xr := V1.load 4
  obtain ⟨xa, xc, hxl⟩ := hx1.len
  rw [List.length_map] at hxl
  have hN : H.new 44 8 (dl d) = H1 := hH1.symm
  simp [L39, hN]
  refine ⟨rfl, ?_⟩
  refine loop_at (InvRr H1 H.next (rs.map row3) a) rs.length ?_ ?_
  · exact ⟨0, by simp, by simp, by simp, by simp, rfl, fun j _ h => by omega⟩
  · rintro k t G ⟨i, hik, t1, t2, t5, rfl, hno⟩
    rw [List.length_map] at hik
    have hlen : sLenL d.xr = some (.int .i64 (rs.length : Int)) := by rw [hxl]; rfl
    have hf := fIdx_drop (isAt a) (rs.map row3) i (by simp; omega) hno
    cases k with
    | zero =>
      have ei : i = rs.length := by omega
      subst ei
      have e : rIdx a rs = -1 := by
        unfold rIdx
        rw [hf, List.drop_of_length_le (by simp)]
        rfl
      rw [e]
      simp [L39_1, t2, t5, ld, hlen]
      exact X1.same
    | succ k =>
      have hi : i < rs.length := by omega
      obtain ⟨b, off, c, hxb, _, _, ldj⟩ := hx1.at (i := i) (by simpa using hi)
      simp only [List.getElem_map, List.length_map] at hxb ldj
      have ld0 : G.load ⟨b, off + i * 3, none⟩ = some (iv rs[i].1) := ldj 0 (by simp [row3])
      have e4 : IntKind.i64.wrap ((i : Int) + 1) = ((i + 1 : Nat) : Int) := by rw [w64 _ (by omega)]; omega
      obtain ⟨i1, hi1⟩ : ∃ i1, i1 = i + 1 := ⟨_, rfl⟩
      rw [← hi1] at e4
      have hix : sIdx 3 d.xr (iv i) = some (.pointer (some ⟨b, off + i * 3, none⟩)) := by rw [hxb]; simp [hi]
      have hdrop : (rs.map row3).drop i = row3 rs[i] :: (rs.map row3).drop (i + 1) := by
        rw [List.drop_eq_getElem_cons (by simpa using hi)]; simp
      by_cases hq : rs[i].1 = a
      · have e : rIdx a rs = i := by
          unfold rIdx
          rw [hf, hdrop]
          simp [fIdx, isAt_row3, hq]
        rw [e]
        simp [L39_1, t1, t2, t5, ld, hlen, hi, hix, ld0, hq]
        exact X1.same
      · have hq' : (rs[i].1 == a) = false := by simp [hq]
        simp [L39_1, t1, t2, t5, ld, hlen, hi, hix, ld0, hq', e4]
        refine ⟨k, Nat.lt_succ_self k, i1, by simp; omega, by simp [t1], by simp [t2], by simp, rfl, fun j hj hlt => ?_⟩
        by_cases hji : j = i
        · subst hji; simp [isAt_row3, hq]
        · exact hno j hj (by omega)
theorem refWritten_T {H : Heap} (hw : H.WF) (d : DL) {ws : List (Int × Int)} (hx : Rws H 2 d.xw (ws.map row2)) (a : Int) (hl : ws.length ≤ 1000) : ∃ v H', T Try.prog 41 [dA d, iv a] H v H' ∧ v = iv (wIdx a ws) ∧ Same H H' [] := by
  refine T_by hm light41 ?_
  have V1 := Vr.mk' hw 44 8 (dl d)
  have X1 := (Xt.refl hw).new 44 8 (dl d)
  obtain ⟨H1, hH1⟩ : ∃ H1, H1 = H.new 44 8 (dl d) := ⟨_, rfl⟩
  rw [← hH1] at V1 X1
  have hx1 := X1.rws hx
  have ld : H1.load ⟨H.next, 5, none⟩ = some d.xw := V1.load 5
  obtain ⟨xa, xc, hxl⟩ := hx1.len
  rw [List.length_map] at hxl
  have hN : H.new 44 8 (dl d) = H1 := hH1.symm
  simp [L41, hN]
  refine ⟨rfl, ?_⟩
  refine loop_at (InvRr H1 H.next (ws.map row2) a) ws.length ?_ ?_
  · exact ⟨0, by simp, by simp, by simp, by simp, rfl, fun j _ h => by omega⟩
  · rintro k t G ⟨i, hik, t1, t2, t5, rfl, hno⟩
    rw [List.length_map] at hik
    have hlen : sLenL d.xw = some (.int .i64 (ws.length : Int)) := by rw [hxl]; rfl
    have hf := fIdx_drop (isAt a) (ws.map row2) i (by simp; omega) hno
    cases k with
    | zero =>
      have ei : i = ws.length := by omega
      subst ei
      have e : wIdx a ws = -1 := by
        unfold wIdx
        rw [hf, List.drop_of_length_le (by simp)]
        rfl
      rw [e]
      simp [L41_1, t2, t5, ld, hlen]
      exact X1.same
    | succ k =>
      have hi : i < ws.length := by omega
      obtain ⟨b, off, c, hxb, _, _, ldj⟩ := hx1.at (i := i) (by simpa using hi)
      simp only [List.getElem_map, List.length_map] at hxb ldj
      have ld0 : G.load ⟨b, off + i * 2, none⟩ = some (iv ws[i].1) := ldj 0 (by simp [row2])
      have e4 : IntKind.i64.wrap ((i : Int) + 1) = ((i + 1 : Nat) : Int) := by rw [w64 _ (by omega)]; omega
      obtain ⟨i1, hi1⟩ : ∃ i1, i1 = i + 1 := ⟨_, rfl⟩
      rw [← hi1] at e4
      have hix : sIdx 2 d.xw (iv i) = some (.pointer (some ⟨b, off + i * 2, none⟩)) := by rw [hxb]; simp [hi]
      have hdrop : (ws.map row2).drop i = row2 ws[i] :: (ws.map row2).drop (i + 1) := by
        rw [List.drop_eq_getElem_cons (by simpa using hi)]; simp
      by_cases hq : ws[i].1 = a
      · have e : wIdx a ws = i := by
          unfold wIdx
          rw [hf, hdrop]
          simp [fIdx, isAt_row2, hq]
        rw [e]
        simp [L41_1, t1, t2, t5, ld, hlen, hi, hix, ld0, hq]
        exact X1.same
      · have hq' : (ws[i].1 == a) = false := by simp [hq]
        simp [L41_1, t1, t2, t5, ld, hlen, hi, hix, ld0, hq', e4]
        refine ⟨k, Nat.lt_succ_self k, i1, by simp; omega, by simp [t1], by simp [t2], by simp, rfl, fun j hj hlt => ?_⟩
        by_cases hji : j = i
        · subst hji; simp [isAt_row2, hq]
        · exact hno j hj (by omega)
/-- The log's variable, and the answer's: so every function of the document begins. -/
structure Dv (H G : Heap) (cs rs : List Value) : Prop where
  X : Xt H G
  v : Vr G H.next 44 8 cs
  r : Vr G (H.next + 1) 44 8 rs
def z8 : List Value := [.int .i64 0, .int .i64 0, .int .i64 0, .slice none 0 0, .slice none 0 0, .slice none 0 0, .slice none 0 0, .slice none 0 0]
theorem dv_new {H : Heap} (hw : H.WF) (cs : List Value) : Dv H ((H.new 44 8 cs).new 44 8 z8) cs z8 :=
  ⟨((Xt.refl hw).new _ _ _).new _ _ _, (Vr.mk' hw _ _ _).new (WF_new hw _ _ _) _ _ _, Vr.mk' (WF_new hw _ _ _) _ _ _⟩
theorem Dv.set {H G : Heap} {cs rs : List Value} (D : Dv H G cs rs) (j : Nat) (v : Value) (hj : j < cs.length) : ∃ G', G.store ⟨H.next, j, none⟩ v = some G' ∧ Dv H G' (cs.set j v) rs :=
  ⟨_, D.v.store j v hj, D.X.put (Nat.le_refl _) _, D.v.put _, D.r.beside (by omega) _⟩
/-- The answer: the log's variable is put into the answer's place. -/
theorem Dv.fin {H G : Heap} {cs rs : List Value} (D : Dv H G cs rs) (hc : cs.length = 8) (hr : rs.length = 8) : ∃ G', G.loadN ⟨H.next, 0, none⟩ 0 8 = some cs ∧ sStore G 8 (ptr (H.next + 1)) (.agg cs.toArray) = some G' ∧ G'.loadN ⟨H.next + 1, 0, none⟩ 0 8 = some cs ∧ Xt H G' :=
  ⟨_, D.v.loadA hc, D.r.storeA (by decide) cs hc hr, (D.r.put cs).loadA hc, D.X.put (Nat.le_succ _) _⟩
theorem refClear_T {H : Heap} (hw : H.WF) (d : DL) : ∃ v H', T Try.prog 38 [dA d] H v H' ∧ v = dA { d with xr := .slice none 0 0, xw := .slice none 0 0, xo := .slice none 0 0, xi := .slice none 0 0 } ∧ Same H H' [] := by
  refine T_by hm light38 ?_
  have D := dv_new hw (dl d)
  obtain ⟨H2, hH2⟩ : ∃ H2, H2 = (H.new 44 8 (dl d)).new 44 8 z8 := ⟨_, rfl⟩
  rw [← hH2] at D
  have hN : (H.new 44 8 (dl d)).new 44 8 [.int .i64 0, .int .i64 0, .int .i64 0, .slice none 0 0, .slice none 0 0, .slice none 0 0, .slice none 0 0, .slice none 0 0] = H2 := hH2.symm
  obtain ⟨G4, s4, D4⟩ := D.set 4 (.slice none 0 0) (by simp [dl])
  obtain ⟨G5, s5, D5⟩ := D4.set 5 (.slice none 0 0) (by simp [dl])
  obtain ⟨G6, s6, D6⟩ := D5.set 6 (.slice none 0 0) (by simp [dl])
  obtain ⟨G7, s7, D7⟩ := D6.set 7 (.slice none 0 0) (by simp [dl])
  obtain ⟨G8, la, sa, lb, X8⟩ := D7.fin (by simp [dl]) rfl
  have e : ((((dl d).set 4 (.slice none 0 0)).set 5 (.slice none 0 0)).set 6 (.slice none 0 0)).set 7 (.slice none 0 0) = dl { d with xr := .slice none 0 0, xw := .slice none 0 0, xo := .slice none 0 0, xi := .slice none 0 0 } := rfl
  rw [e] at la sa lb
  obtain ⟨d2, hd2⟩ : ∃ d2, d2 = dl { d with xr := .slice none 0 0, xw := .slice none 0 0, xo := .slice none 0 0, xi := .slice none 0 0 } := ⟨_, rfl⟩
  have hda : dA { d with xr := .slice none 0 0, xw := .slice none 0 0, xo := .slice none 0 0, xi := .slice none 0 0 } = .agg d2.toArray := by rw [hd2]
  rw [← hd2] at la sa lb
  rw [hda]
  simp [L38, hN, s4, s5, s6, s7, la, sa, lb]
  exact ⟨rfl, X8.same⟩
end Go.Proofs.Ytjpdoflmjokplaa
namespace Go.Proofs.Ytjpdoflmjokplaa
open Go.Ot Go.RowKit
set_option linter.unusedSimpArgs false
set_option linter.unusedVariables false
def ci (l : List Int) : List Value := l.map iv
theorem ci_append (a b : List Int) : ci (a ++ b) = ci a ++ ci b := by simp [ci]
theorem ci_len (a : List Int) : (ci a).length = a.length := by simp [ci]
def right (op : Int) : Bool := decide (1 ≤ op) && decide (op ≤ 7)
theorem right_T {H : Heap} (op : Int) : T Try.prog 46 [iv op] H (.bool (right op)) H := by
  refine T_eq hm light46 ?_
  by_cases h1 : 1 ≤ op <;> by_cases h2 : op ≤ 7 <;> simp [L46, right, h1, h2]
theorem rightR_T {H : Heap} (op : Int) : T Try.prog 50 [iv op] H (.bool (right op)) H := by
  refine T_eq hm light50 ?_
  by_cases h1 : 1 ≤ op <;> by_cases h2 : op ≤ 7 <;> simp [L50, right, h1, h2]
def zeroV (op : Int) : Int := if op = 2 then 1 else if op = 3 then 9223372036854775807 else if op = 4 then -9223372036854775808 else if op = 5 then -1 else 0
theorem zero_T {H : Heap} (op : Int) : T Try.prog 47 [iv op] H (iv (zeroV op)) H := by
  refine T_eq hm light47 ?_
  by_cases h2 : op = 2
  · subst h2; simp [L47, zeroV]
  by_cases h3 : op = 3
  · subst h3; simp [L47, zeroV]
  by_cases h4 : op = 4
  · subst h4; simp [L47, zeroV]
  by_cases h5 : op = 5
  · subst h5; simp [L47, zeroV]
  simp [L47, zeroV, h2, h3, h4, h5]
def bitsI (n : Int) : BitVec 64 := BitVec.ofInt 64 n
def joinV (op a b : Int) : Int :=
  if op = 1 then IntKind.i64.wrap (a + b) else if op = 2 then IntKind.i64.wrap (a * b) else if op = 3 then (if b < a then b else a) else if op = 4 then (if a < b then b else a)
  else if op = 5 then IntKind.i64.wrap (bitsI a &&& bitsI b).toNat else if op = 6 then IntKind.i64.wrap (bitsI a ||| bitsI b).toNat else if op = 7 then IntKind.i64.wrap (bitsI a ^^^ bitsI b).toNat else 0
theorem join_T {H : Heap} (op a b : Int) : T Try.prog 56 [iv op, iv a, iv b] H (iv (joinV op a b)) H := by
  refine T_eq hm light56 ?_
  by_cases h1 : op = 1
  · subst h1; simp [L56, joinV]
  by_cases h2 : op = 2
  · subst h2; simp [L56, joinV]
  by_cases h3 : op = 3
  · subst h3; simp [L56, joinV, sMM, sMinMax]
  by_cases h4 : op = 4
  · subst h4; simp [L56, joinV, sMM, sMinMax]
  by_cases h5 : op = 5
  · subst h5; simp [L56, joinV, sBin_and]; rfl
  by_cases h6 : op = 6
  · subst h6; simp [L56, joinV, sBin_or]; rfl
  by_cases h7 : op = 7
  · subst h7; simp [L56, joinV, sBin_xor]; rfl
  simp [L56, joinV, h1, h2, h3, h4, h5, h6, h7]

/-- At p stands a heap of these operations, with so much in each; its blocks lie from lo up to hi. -/
structure HP (H : Heap) (lo hi p : Nat) (ops now : List Int) (many : Int) (xo xn : Value) : Prop where
  hp : ¬ p < H.B
  bp : H.blk p = some ⟨97, 3, [xo, xn, iv many]⟩
  oo : Own H 47 1 ops.length (ci ops) xo
  on : Own H 2 1 now.length (ci now) xn
  po : blkOf xo ≠ some p
  pn : blkOf xn ≠ some p
  xx : ∀ b, blkOf xo = some b → blkOf xn ≠ some b
  rp : lo ≤ p ∧ p < hi
  ro : ∀ b, blkOf xo = some b → lo ≤ b ∧ b < hi
  rn : ∀ b, blkOf xn = some b → lo ≤ b ∧ b < hi
theorem HP.frame {H H' : Heap} {lo hi p : Nat} {ops now : List Int} {many : Int} {xo xn : Value} (h : HP H lo hi p ops now many xo xn) (hb : H'.base = H.base) (hk : ∀ b, lo ≤ b → b < hi → H'.blk b = H.blk b) :
    HP H' lo hi p ops now many xo xn :=
  ⟨by rw [B_eq hb]; exact h.hp, by rw [hk p h.rp.1 h.rp.2]; exact h.bp, h.oo.keep (B_eq hb) (fun b e => hk b (h.ro b e).1 (h.ro b e).2), h.on.keep (B_eq hb) (fun b e => hk b (h.rn b e).1 (h.rn b e).2),
   h.po, h.pn, h.xx, h.rp, h.ro, h.rn⟩
theorem HP.wide {H : Heap} {lo hi hi2 p : Nat} {ops now : List Int} {many : Int} {xo xn : Value} (h : HP H lo hi p ops now many xo xn) (hh : hi ≤ hi2) : HP H lo hi2 p ops now many xo xn :=
  ⟨h.hp, h.bp, h.oo, h.on, h.po, h.pn, h.xx, ⟨h.rp.1, by have := h.rp.2; omega⟩, fun b e => ⟨(h.ro b e).1, by have := (h.ro b e).2; omega⟩, fun b e => ⟨(h.rn b e).1, by have := (h.rn b e).2; omega⟩⟩
/-- Rows of two numbers each, that may be read. -/
def Twos (H : Heap) (x : Value) (l : List (Int × Int)) : Prop :=
  (x = .slice none 0 0 ∧ l = []) ∨ ∃ b off c, x = .slice (some ⟨b, off, none⟩) l.length c ∧ ∀ i (h : i < l.length), H.load ⟨b, off + i * 2, none⟩ = some (iv l[i].1) ∧ H.load ⟨b, off + i * 2 + 1, none⟩ = some (iv l[i].2)
theorem Twos.len {H : Heap} {x : Value} {l : List (Int × Int)} (h : Twos H x l) : ∃ a c, x = .slice a l.length c := by
  rcases h with ⟨rfl, rfl⟩ | ⟨b, off, c, rfl, h⟩ <;> exact ⟨_, _, rfl⟩
theorem Twos.at {H : Heap} {x : Value} {l : List (Int × Int)} (h : Twos H x l) {i : Nat} (hi : i < l.length) : ∃ b off c, x = .slice (some ⟨b, off, none⟩) l.length c ∧ H.load ⟨b, off + i * 2, none⟩ = some (iv l[i].1) ∧ H.load ⟨b, off + i * 2 + 1, none⟩ = some (iv l[i].2) := by
  rcases h with ⟨rfl, rfl⟩ | ⟨b, off, c, rfl, h⟩
  · simp at hi
  · exact ⟨b, off, c, rfl, h i hi⟩
theorem Twos.keep {H H' : Heap} (hw : H.WF) (hb : H'.base = H.base) (hk : ∀ b, b < H.next → H'.blk b = H.blk b) {x : Value} {l : List (Int × Int)} (h : Twos H x l) : Twos H' x l := by
  rcases h with h | ⟨b, off, c, rfl, h⟩
  · exact .inl h
  · refine .inr ⟨b, off, c, rfl, fun i hi => ?_⟩
    have e := hk b (load_lt hw (h i hi).1)
    rw [load_frame hb e, load_frame hb e]; exact h i hi
/-- What is made of so many. -/
structure NW (G H : Heap) (p : Nat) (l : List (Int × Int)) (xo xn : Value) : Prop where
  hp : HP H G.next H.next p (l.map (·.1)) (l.map fun r => zeroV r.1) 0 xo xn
  wf : H.WF
  base : H.base = G.base
  next : G.next ≤ H.next
  old : ∀ b, b < G.next → H.blk b = G.blk b
def InvN (G : Heap) (x : Value) (l : List (Int × Int)) (p : Nat) (k : Nat) (t : Tm) (H : Heap) : Prop :=
  ∃ i xo xn, i + k = l.length ∧ t 4 = ptr p ∧ t 12 = x ∧ t 13 = iv l.length ∧ t 14 = iv i ∧ (∀ j (h : j < i) (h2 : j < l.length), right l[j].1 = true) ∧ NW G H p (l.take i) xo xn
def NewQ (H : Heap) (l : List (Int × Int)) (v : Value) (H' : Heap) : Prop :=
  if 4 < l.length then v = .tuple #[.pointer none, iv 171] else if l.all (fun r => right r.1) = true then ∃ p xo xn, v = .tuple #[ptr p, iv 0] ∧ NW H H' p l xo xn else v = .tuple #[.pointer none, iv 140]
theorem new_T {H : Heap} (hw : H.WF) {x : Value} {l : List (Int × Int)} (hx : Twos H x l) :
    ∃ v H', T Try.prog 22 [x] H v H' ∧ H'.WF ∧ H'.base = H.base ∧ H.next ≤ H'.next ∧ (∀ b, b < H.next → H'.blk b = H.blk b) ∧
      NewQ H l v H' := by
  obtain ⟨xa, xc, hxl⟩ := hx.len
  by_cases h4 : 4 < l.length
  · refine ⟨_, H, T_eq (v := .tuple #[.pointer none, iv 171]) (H' := H) hm light22 ?_, hw, rfl, Nat.le_refl _, fun _ _ => rfl, by rw [NewQ, if_pos h4]⟩
    rw [hxl]
    simp [L22, h4]
  refine T_by hm light22 ?_
  have hnB := hw.next_ge
  have W0 : NW H (H.new 97 3 [.slice none 0 0, .slice none 0 0, iv 0]) H.next [] (.slice none 0 0) (.slice none 0 0) :=
    ⟨⟨by simpa using hnB, by simp, Own.nil _ _ _, Own.nil _ _ _, by simp, by simp, by simp, ⟨by omega, by simp⟩, by simp, by simp⟩, WF_new hw _ _ _, rfl, by simp, fun b hb => by simp [show b ≠ H.next by omega]⟩
  rw [hxl]
  simp [L22, h4]
  rw [← hxl]
  refine loop_at (InvN H x l H.next) l.length ?_ ?_
  · exact ⟨0, _, _, by omega, by simp, by simp, by simp, by simp, by simp, W0⟩
  · rintro k t H1 ⟨i, xo, xn, hik, t4, t12, t13, t14, hall, W⟩
    cases k with
    | zero =>
      have e0 : i = l.length := by omega
      subst e0
      rw [List.take_length] at W
      have ha : l.all (fun r => right r.1) = true := by
        rw [List.all_eq_true]
        intro r hr
        obtain ⟨j, hj, rfl⟩ := List.mem_iff_getElem.1 hr
        exact hall j hj hj
      simp [L22_1, t4, t13, t14, packV]
      refine ⟨W.wf, W.base, W.next, W.old, ?_⟩
      rw [NewQ, if_neg h4, if_pos ha]
      exact ⟨_, xo, xn, rfl, W⟩
    | succ k =>
      have hi : i < l.length := by omega
      obtain ⟨b, off, c, hxs, l1, l2⟩ := (hx.keep hw W.base W.old).at hi
      have hnB1 := W.wf.next_ge
      have hwr : (H1.new 49 2 [iv l[i].1, iv l[i].2]).WF := WF_new W.wf _ _ _
      have st2 : sStore (H1.new 49 2 [iv 0, iv 0]) 2 (ptr H1.next) (.agg #[iv l[i].1, iv l[i].2]) = some (H1.new 49 2 [iv l[i].1, iv l[i].2]) := by
        have := sStore_agg (H1.new 49 2 [iv 0, iv 0]) ⟨H1.next, 0, none⟩ 2 [iv l[i].1, iv l[i].2] rfl (by decide)
        rw [show (.agg #[iv l[i].1, iv l[i].2] : Value) = .agg [iv l[i].1, iv l[i].2].toArray from rfl, this, storeN_at (k := ⟨49, 2, [iv 0, iv 0]⟩) (by simpa using hnB1) (by simp) (by simp)]
        simp [new_put]
      have l3 : (H1.new 49 2 [iv l[i].1, iv l[i].2]).load ⟨H1.next, 0, none⟩ = some (iv l[i].1) := by rw [load_at (k := ⟨49, 2, [iv l[i].1, iv l[i].2]⟩) (by simpa using hnB1) (by simp)]; rfl
      have ld : H1.loadN ⟨b, off + i * 2, none⟩ 0 2 = some [iv l[i].1, iv l[i].2] := by
        simp [Heap.loadN, add_own, l1, l2]
      obtain ⟨H2, hH2⟩ : ∃ H2, H2 = H1.new 49 2 [iv l[i].1, iv l[i].2] := ⟨_, rfl⟩
      simp [L22_1, t4, t12, t13, t14, hxs, hi, ld, st2, l3]
      rw [← hH2]
      refine goT_of (right_T _) ?_
      have n2 : H2.next = H1.next + 1 := by rw [hH2]; rfl
      have b2 : H2.base = H1.base := by rw [hH2]; rfl
      have k2 : ∀ b, b < H1.next → H2.blk b = H1.blk b := fun b hb => by rw [hH2]; simp [show b ≠ H1.next by omega]
      rw [← hH2] at hwr l3
      have N2 : NW H H2 H.next (l.take i) xo xn := ⟨(W.hp.frame b2 (fun b _ h2 => k2 b h2)).wide (by omega), hwr, b2.trans W.base, by have := W.next; omega, fun b hb => (k2 b (by have := W.next; omega)).trans (W.old b hb)⟩
      by_cases hr : right l[i].1 = true
      · have hlen : (l.take i).length = i := by simp; omega
        have e1 : ((l.take i).map (·.1)).length = i := by simp; omega
        have e2 : ((l.take i).map fun r => zeroV r.1).length = i := by simp; omega
        have hp2 := N2.hp
        have hbp := hp2.bp
        have oo := hp2.oo
        have on := hp2.on
        rw [e1] at oo
        rw [e2] at on
        obtain ⟨a3, H3, H4, ap3, st3, P3⟩ := push_in hwr hp2.hp hbp oo hp2.po (iv l[i].1) 0 (by simp) 8 0 (by omega)
        simp only [List.set_cons_zero] at P3
        have on4 : Own H4 2 1 i (ci ((l.take i).map fun r => zeroV r.1)) xn := on.keep (B_eq P3.base) (fun b hb => P3.same b (hp2.rn b hb).2 (fun e => hp2.pn (by rw [← e]; exact hb)) (fun e => hp2.xx b e hb))
        have hp4 : ¬ H.next < H4.B := by rw [B_eq P3.base]; exact hp2.hp
        obtain ⟨a5, H5, H6, ap5, st5, P5⟩ := push_in P3.wf hp4 P3.bp on4 hp2.pn (iv (zeroV l[i].1)) 1 (by simp) 8 0 (by omega)
        simp only [List.set_cons_zero, List.set_cons_succ] at P5
        have ld0 : H2.load ⟨H.next, 0, none⟩ = some xo := by rw [load_at hp2.hp hbp]; rfl
        have ld1 : H4.load ⟨H.next, 1, none⟩ = some xn := by rw [load_at hp4 P3.bp]; rfl
        have l4 : H4.load ⟨H1.next, 0, none⟩ = some (iv l[i].1) := by
          have : H4.blk H1.next = H2.blk H1.next := P3.same _ (by omega) (by have := hp2.rp; have := W.hp.rp; omega) (fun e => by have := (W.hp.ro _ e).2; omega)
          rw [load_frame P3.base this]; exact l3
        have e3 : IntKind.i64.wrap ((i : Int) + 1) = ((i + 1 : Nat) : Int) := by rw [w64 _ (by omega)]; omega
        obtain ⟨i1, hi1⟩ : ∃ i1, i1 = i + 1 := ⟨_, rfl⟩
        rw [← hi1] at e3
        have ld0n := load_newN hwr ld0
        have ld1n := load_newN P3.wf ld1
        simp [hr, t4, ld0, ld0n, l3, zerosA, ap3, st3, ld1, l4]
        refine goT_of (zero_T _) ?_
        simp [ld1, ld1n, zerosA, ap5, st5, t13, t14, e3]
        have r2 := hp2.rp
        have n3 := P3.next
        have n5 := P5.next
        have y3n : ∀ b, blkOf (.slice (some a3) (i + 1) 0) = some b → H2.next ≤ b ∧ b < H4.next := P3.new
        have y5n : ∀ b, blkOf (.slice (some a5) (i + 1) 0) = some b → H4.next ≤ b ∧ b < H6.next := P5.new
        have y3e : (.slice (some a3) (i + 1) 0 : Value) = .slice (some a3) i1 0 := by rw [hi1]
        have tk : l.take i1 = l.take i ++ [l[i]] := by rw [hi1]; exact List.take_succ_eq_append_getElem hi
        refine ⟨k, Nat.lt_succ_self k, i1, .slice (some a3) (i + 1) 0, .slice (some a5) (i + 1) 0, by omega, by simp [t4], by simp [t12, hxs], by simp [t13], by simp, ?_, ?_⟩
        · intro j hj hj2
          by_cases hji : j = i
          · subst hji; exact hr
          · exact hall j (by omega) hj2
        · show NW H H6 H.next (l.take i1) (.slice (some a3) (i + 1) 0) (.slice (some a5) (i + 1) 0)
          refine ⟨⟨by rw [B_eq P5.base]; exact hp4, P5.bp, ?_, ?_, ?_, ?_, ?_, ⟨by omega, by omega⟩, ?_, ?_⟩, P5.wf, P5.base.trans (P3.base.trans N2.base), by have := N2.next; omega, ?_⟩
          · have e4 : ((l.take i1).map (·.1)).length = i + 1 := by simp; omega
            rw [e4, tk, List.map_append, ci_append]
            exact P3.own.keep (B_eq P5.base) (fun b hb => P5.same b (y3n b hb).2 (by have := (y3n b hb).1; omega) (fun e => by have := (hp2.rn b e).2; have := (y3n b hb).1; omega))
          · have e4 : ((l.take i1).map fun r => zeroV r.1).length = i + 1 := by simp; omega
            rw [e4, tk, List.map_append, ci_append]
            exact P5.own
          · intro e; have := (y3n _ e).1; omega
          · intro e; have := (y5n _ e).1; omega
          · intro b e1 e2; have := (y3n b e1).2; have := (y5n b e2).1; omega
          · intro b e; have := y3n b e; omega
          · intro b e; have := y5n b e; omega
          · intro b hb
            rw [P5.same b (by omega) (by omega) (fun e => by have := (hp2.rn b e).1; omega), P3.same b (by omega) (by omega) (fun e => by have := (hp2.ro b e).1; omega)]
            exact N2.old b hb
      · have ha : ¬ l.all (fun r => right r.1) = true := by
          rw [List.all_eq_true]
          exact fun h => hr (h _ (List.getElem_mem hi))
        simp [hr, packV]
        refine ⟨N2.wf, N2.base, N2.next, N2.old, ?_⟩
        rw [NewQ, if_neg h4, if_neg ha]
/-- Such a number there is. -/
def may (ops : List Int) (c : Int) : Bool := decide (0 ≤ c) && decide (c < ops.length)
def addN (ops now : List Int) (c n : Int) : List Int := if may ops c then now.set c.toNat (joinV (ops.getD c.toNat 0) (now.getD c.toNat 0) n) else now
theorem add_T {H : Heap} (hw : H.WF) {lo hi p : Nat} {ops now : List Int} {many : Int} {xo xn : Value} (h : HP H lo hi p ops now many xo xn) (hl : now.length = ops.length) (c n : Int) (hm64 : okI many ∧ many < 9223372036854775807) (hol : ops.length ≤ 1000) :
    ∃ v H', T Try.prog 52 [ptr p, iv c, iv n] H v H' ∧ v = .bool (may ops c) ∧ H'.WF ∧ H'.base = H.base ∧ H'.next = H.next ∧ (∀ b, (b < lo ∨ hi ≤ b) → H'.blk b = H.blk b) ∧
      HP H' lo hi p ops (addN ops now c n) (if may ops c then many + 1 else many) xo xn := by
  refine T_by hm light52 ?_
  have l0 := fun off => load_at (off := off) h.hp h.bp
  obtain ⟨ao, hao⟩ := h.oo.len
  obtain ⟨an, han⟩ := h.on.len
  by_cases h1 : c < 0
  · have hmay : may ops c = false := by simp [may]; omega
    simp [L52, h1, hmay, addN]
    exact ⟨hw, h⟩
  by_cases h2 : (ops.length : Int) ≤ c
  · have hmay : may ops c = false := by simp [may]; omega
    rw [hao] at l0
    simp [L52, h1, l0, h2, hmay, addN]
    exact ⟨hw, hao ▸ h⟩
  have hmay : may ops c = true := by simp [may]; omega
  obtain ⟨i, rfl⟩ : ∃ i : Nat, c = i := ⟨c.toNat, by omega⟩
  have hio : i < ops.length := by omega
  have hi2 : i < now.length := by omega
  obtain ⟨bo, off, ca, hbo, lo1⟩ := h.oo.ints.at hio
  obtain ⟨bn, offn, cn, hbn, ln1⟩ := h.on.ints.at hi2
  have hown := h.on
  rcases hown.2 with ⟨_, h0⟩ | ⟨bn2, rest, hbn2, hB, hk⟩
  · omega
  rw [hbn2] at hbn
  simp only [Value.slice.injEq, Option.some.injEq, Addr.mk.injEq, and_true, true_and] at hbn
  obtain ⟨⟨rfl, rfl⟩, rfl⟩ := hbn
  obtain ⟨z, hz⟩ : ∃ z, z = joinV ops[i] now[i] n := ⟨_, rfl⟩
  have pb : p ≠ bn2 := fun e => h.pn (by rw [hbn2, e]; rfl)
  obtain ⟨H2, hH2⟩ : ∃ H2, H2 = H.put bn2 (ci (now.set i z) ++ rest) := ⟨_, rfl⟩
  have hst : H.store ⟨bn2, i, none⟩ (iv z) = some H2 := by
    rw [store_own hB hk, if_pos (by simp [ci]; omega), hH2]
    congr 2
    rw [List.set_append_left _ _ (by simpa [ci] using hi2)]
    simp [ci, List.map_set]
  have b2 : H2.base = H.base := by rw [hH2]; rfl
  have bp2 : H2.blk p = some ⟨97, 3, [xo, xn, iv many]⟩ := by rw [hH2]; simp [pb, h.bp]
  have hp2 : ¬ p < H2.B := by rw [B_eq b2]; exact h.hp
  have l2 := fun off => load_at (off := off) hp2 bp2
  have s2 := fun off v => store_own (off := off) (v := v) hp2 bp2
  have e3 : IntKind.i64.wrap (many + 1) = many + 1 := w64 _ (by have := hm64.1.1; have := hm64.2; omega)
  have e4 : ops.getD i 0 = ops[i] := by simp [List.getD, hio]
  have e5 : now.getD i 0 = now[i] := by simp [List.getD, hi2]
  have T1 := join_T (H := H) ops[i] now[i] n
  rw [← hz] at T1
  have fin : HP (H2.put p [xo, xn, iv (many + 1)]) lo hi p ops (addN ops now i n) (many + 1) xo xn := by
    have ea : addN ops now i n = now.set i z := by simp only [addN, hmay, if_true, Int.toNat_natCast, e4, e5, hz]
    rw [ea]
    refine ⟨by simpa using hp2, by simp [bp2], ?_, ?_, h.po, h.pn, h.xx, h.rp, h.ro, h.rn⟩
    · refine h.oo.keep (by simp [B_eq b2]) (fun b hb => ?_)
      have m1 : b ≠ p := fun e => h.po (by rw [← e]; exact hb)
      have m2 : b ≠ bn2 := fun e => h.xx b hb (by rw [hbn2, e]; rfl)
      rw [hH2]; simp [m1, m2]
    · refine ⟨by simp [ci], .inr ⟨bn2, rest, by simpa using hbn2, by simpa [B_eq b2] using hB, ?_⟩⟩
      rw [hH2]; simp [pb.symm, hk]
  have sm : ∀ b, (b < lo ∨ hi ≤ b) → (H2.put p [xo, xn, iv (many + 1)]).blk b = H.blk b := by
    intro b hb
    have := h.rp
    have := h.rn bn2 (by rw [hbn2]; rfl)
    have m1 : b ≠ p := by omega
    have m2 : b ≠ bn2 := by omega
    rw [hH2]; simp [m1, m2]
  rw [hbo] at l0 l2 bp2
  rw [hbn2] at l0 l2 bp2
  have lo1' : H.load ⟨bo, off + i, none⟩ = some (iv ops[i]) := lo1
  have ln1' : H.load ⟨bn2, i, none⟩ = some (iv now[i]) := by simpa using ln1
  simp [L52, l0, h1, h2, hio, hi2, lo1', ln1']
  refine goT_of T1 ?_
  simp [l0, hi2, hst, l2, s2, e3, hmay]
  refine ⟨WF_put (by rw [hH2]; exact WF_put hw _ _) _ _, b2, by rw [hH2]; rfl, fun b hb => ?_, fin⟩
  have := sm b hb
  simpa using this

def ontoN (ops ahead now : List Int) (n : Nat) : List Int := (List.range n).map fun i => joinV (ops.getD i 0) (ahead.getD i 0) (now.getD i 0)
theorem ontoN_len (ops ahead now : List Int) (n : Nat) : (ontoN ops ahead now n).length = n := by simp [ontoN]
theorem ontoN_succ (ops ahead now : List Int) (n : Nat) : ontoN ops ahead now (n + 1) = ontoN ops ahead now n ++ [joinV (ops.getD n 0) (ahead.getD n 0) (now.getD n 0)] := by simp [ontoN, List.range_succ]
def InvO (H : Heap) (p : Nat) (xo x : Value) (ops ahead now : List Int) (k : Nat) (t : Tm) (H1 : Heap) : Prop :=
  ∃ i y, i + k = ops.length ∧ t 0 = ptr p ∧ t 1 = x ∧ t 6 = y ∧ t 20 = xo ∧ t 21 = iv ops.length ∧ t 22 = iv i ∧ Og H H1 2 (.slice none 0 0) i (ci (ontoN ops ahead now i)) y
theorem Og.olds {H H' : Heap} {ety n : Nat} {cs : List Value} {y : Value} (h : Og H H' ety (.slice none 0 0) n cs y) : ∀ b, b < H.next → H'.blk b = H.blk b := fun b hb => h.same b hb (by simp)
def OntoQ (H : Heap) (ops now ahead : List Int) (v : Value) (H' : Heap) : Prop :=
  if ahead.length = now.length then ∃ y, v = .tuple #[y, .bool true] ∧ Og H H' 2 (.slice none 0 0) ops.length (ci (ontoN ops ahead now ops.length)) y else v = .tuple #[.slice none 0 0, .bool false] ∧ H' = H
theorem onto_T {H : Heap} (hw : H.WF) {lo hi p : Nat} {ops now : List Int} {many : Int} {xo xn : Value} (h : HP H lo hi p ops now many xo xn) (hl : now.length = ops.length) (hol : ops.length ≤ 1000) (hhi : hi ≤ H.next)
    {x : Value} {ahead : List Int} (hx : Ints H .i64 x ahead) (hla : ahead.length ≤ 1000000) : ∃ v H', T Try.prog 45 [ptr p, x] H v H' ∧ OntoQ H ops now ahead v H' := by
  refine T_by hm light45 ?_
  have l0 := fun off => load_at (off := off) h.hp h.bp
  obtain ⟨ao, hao⟩ := h.oo.len
  obtain ⟨an, han⟩ := h.on.len
  obtain ⟨xa, xc, hxl⟩ := hx.len
  by_cases h1 : ahead.length = now.length
  · rw [hao, han] at l0
    rw [hxl]
    simp [L45, l0, h1]
    rw [← h1, ← hxl, ← hao]
    refine loop_at (InvO H p xo x ops ahead now) ops.length ?_ ?_
    · exact ⟨0, .slice none 0 0, by omega, by simp, by simp, by simp, by simp, by simp, by simp, by simpa [ontoN, ci] using Og.refl hw (Own.nil _ _ _)⟩
    · rintro k t H1 ⟨i, y, hik, t0, t1, t6, t20, t21, t22, a⟩
      cases k with
      | zero =>
        have e0 : i = ops.length := by omega
        subst e0
        obtain ⟨ya, hy⟩ := a.own.len
        simp [L45_1, t6, t21, t22, hy, packV]
        rw [← hy]
        simp only [OntoQ, h1, if_true]
        exact ⟨y, rfl, a⟩
      | succ k =>
        have hi' : i < ops.length := by omega
        have hi2 : i < now.length := by omega
        have hi3 : i < ahead.length := by omega
        have hf := h.frame a.base (fun b _ hb => Og.olds a b (by omega))
        obtain ⟨bo, off, ca, hbo, lo1⟩ := hf.oo.ints.at hi'
        obtain ⟨bn, offn, cn, hbn, ln1⟩ := hf.on.ints.at hi2
        obtain ⟨bx, offx, cx, hbx, lx1⟩ := (hx.keep hw a.base (Og.olds a)).at hi3
        have l1 := fun off => load_at (off := off) hf.hp hf.bp
        rw [hbn] at l1
        have e3 : IntKind.i64.wrap ((i : Int) + 1) = ((i + 1 : Nat) : Int) := by rw [w64 _ (by omega)]; omega
        obtain ⟨i1, hi1⟩ : ∃ i1, i1 = i + 1 := ⟨_, rfl⟩
        rw [← hi1] at e3
        obtain ⟨HA, ap, aA⟩ := Og.push a.wf a.own (iv (joinV ops[i] ahead[i] now[i])) (bytes := 8) (c := 0) (by omega)
        obtain ⟨y2, hy2⟩ : ∃ y2 : Addr, y2 = ⟨H1.next + 1, 0, none⟩ := ⟨_, rfl⟩
        rw [← hy2] at ap aA
        simp [L45_1, t0, t1, t6, t20, t21, t22, hbo, hi', lo1, hbx, hi3, lx1, l1, hi2, ln1]
        refine goT_of (join_T _ _ _) ?_
        simp [zerosA, ap, t22, e3]
        refine ⟨k, Nat.lt_succ_self k, i1, .slice (some y2) (i + 1) 0, by omega, by simp [t0], by simp [t1, hbx], by simp, by simp [t20, hbo], by simp [t21], by simp, ?_⟩
        show Og H HA _ _ _ _ _
        have e4 : ops.getD i 0 = ops[i] := by simp [List.getD, hi']
        have e5 : now.getD i 0 = now[i] := by simp [List.getD, hi2]
        have e6 : ahead.getD i 0 = ahead[i] := by simp [List.getD, hi3]
        rw [hi1, ontoN_succ, ci_append, e4, e5, e6]
        exact a.trans aA
  · rw [han] at l0
    rw [hxl]
    simp [L45, l0, h1, OntoQ, packV]

end Go.Proofs.Ytjpdoflmjokplaa
