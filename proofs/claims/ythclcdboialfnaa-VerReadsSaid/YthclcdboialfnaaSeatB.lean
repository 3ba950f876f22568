/-
  Chapter 21: a store of versions: what stands; where an age stands in a chain.
-/
import Derived.Test.YthclcdboialfnaaSeatA
namespace Go.Proofs.Ythclcdboialfnaa
open Go.Ot Go.RowKit
set_option linter.unusedSimpArgs false
set_option linter.unusedVariables false
/-! ### what stands -/
structure On (H H1 : Heap) : Prop where
  wf : H1.WF
  base : H1.base = H.base
  next : H.next ≤ H1.next
  keep : ∀ b, b < H.next → H1.blk b = H.blk b
theorem On.refl {H : Heap} (hw : H.WF) : On H H := ⟨hw, rfl, Nat.le_refl _, fun _ _ => rfl⟩
theorem On.trans {H H1 H2 : Heap} (a : On H H1) (b : On H1 H2) : On H H2 := ⟨b.wf, b.base.trans a.base, Nat.le_trans a.next b.next, fun c hc => by rw [b.keep c (Nat.lt_of_lt_of_le hc a.next), a.keep c hc]⟩
theorem On.new {H H1 : Heap} (a : On H H1) (ty sz : Nat) (c : List Value) : On H (H1.new ty sz c) :=
  ⟨WF_new a.wf _ _ _, a.base, Nat.le_trans a.next (by simp), fun b hb => by have := a.next; simp [show b ≠ H1.next by omega, a.keep b hb]⟩
theorem On.put {H H1 : Heap} (a : On H H1) {p : Nat} (hp : H.next ≤ p) (c : List Value) : On H (H1.put p c) :=
  ⟨WF_put a.wf _ _, a.base, a.next, fun b hb => by simp [show b ≠ p by omega, a.keep b hb]⟩
/-- All stands but one block. -/
structure Fr (H H1 : Heap) (p : Nat) : Prop where
  wf : H1.WF
  base : H1.base = H.base
  next : H.next ≤ H1.next
  keep : ∀ b, b < H.next → b ≠ p → H1.blk b = H.blk b
theorem Fr.refl {H : Heap} (hw : H.WF) (p : Nat) : Fr H H p := ⟨hw, rfl, Nat.le_refl _, fun _ _ _ => rfl⟩
theorem Fr.trans {H H1 H2 : Heap} {p : Nat} (a : Fr H H1 p) (b : Fr H1 H2 p) : Fr H H2 p := ⟨b.wf, b.base.trans a.base, Nat.le_trans a.next b.next, fun c hc hp => by rw [b.keep c (Nat.lt_of_lt_of_le hc a.next) hp, a.keep c hc hp]⟩
theorem On.fr {H H1 : Heap} (a : On H H1) (p : Nat) : Fr H H1 p := ⟨a.wf, a.base, a.next, fun c hc _ => a.keep c hc⟩
theorem Fr.put {H H1 : Heap} {p : Nat} (a : Fr H H1 p) (c : List Value) : Fr H (H1.put p c) p := ⟨WF_put a.wf _ _, a.base, a.next, fun b hb hp => by simp [hp, a.keep b hb hp]⟩
theorem Fr.new {H H1 : Heap} {p : Nat} (a : Fr H H1 p) (ty sz : Nat) (c : List Value) : Fr H (H1.new ty sz c) p :=
  ⟨WF_new a.wf _ _ _, a.base, Nat.le_trans a.next (by simp), fun b hb hp => by have := a.next; simp [show b ≠ H1.next by omega, a.keep b hb hp]⟩
/-- A variable. -/
structure Vr (G : Heap) (q ty n : Nat) (cs : List Value) : Prop where
  hq : ¬ q < G.B
  bq : G.blk q = some ⟨ty, n, cs⟩
  hn : 0 < n
theorem Vr.mk' {G : Heap} (hw : G.WF) (ty n : Nat) (cs : List Value) (hn : 0 < n := by decide) : Vr (G.new ty n cs) G.next ty n cs := ⟨by simpa using hw.next_ge, by simp, hn⟩
theorem Vr.new {G : Heap} (hw : G.WF) {q ty n : Nat} {cs : List Value} (h : Vr G q ty n cs) (ty' sz : Nat) (c : List Value) : Vr (G.new ty' sz c) q ty n cs :=
  ⟨by simpa using h.hq, by have := hw.lt h.bq; simp [show q ≠ G.next by omega, h.bq], h.hn⟩
theorem Vr.beside {G : Heap} {q ty n : Nat} {cs : List Value} (h : Vr G q ty n cs) {r : Nat} (hr : q ≠ r) (c : List Value) : Vr (G.put r c) q ty n cs := ⟨by simpa using h.hq, by simp [hr, h.bq], h.hn⟩
theorem Vr.put {G : Heap} {q ty n : Nat} {cs : List Value} (h : Vr G q ty n cs) (c : List Value) : Vr (G.put q c) q ty n c := ⟨by simpa using h.hq, by simp [h.bq], h.hn⟩
theorem Vr.keep {G G' : Heap} {q ty n : Nat} {cs : List Value} (h : Vr G q ty n cs) (hb : G'.base = G.base) (hk : G'.blk q = G.blk q) : Vr G' q ty n cs := ⟨by rw [B_eq hb]; exact h.hq, by rw [hk]; exact h.bq, h.hn⟩
theorem Vr.on {G G' : Heap} (hw : G.WF) {q ty n : Nat} {cs : List Value} (h : Vr G q ty n cs) (o : On G G') : Vr G' q ty n cs := h.keep o.base (o.keep _ (hw.lt h.bq))
theorem Vr.fr {G G' : Heap} {p : Nat} (hw : G.WF) {q ty n : Nat} {cs : List Value} (h : Vr G q ty n cs) (hp : q ≠ p) (o : Fr G G' p) : Vr G' q ty n cs := h.keep o.base (o.keep _ (hw.lt h.bq) hp)
theorem Vr.load {G : Heap} {q ty n : Nat} {cs : List Value} (h : Vr G q ty n cs) (j : Nat) : G.load ⟨q, j, none⟩ = cs[j]? := load_at h.hq h.bq h.hn
theorem Vr.store {G : Heap} {q ty n : Nat} {cs : List Value} (h : Vr G q ty n cs) (j : Nat) (v : Value) (hj : j < cs.length) : G.store ⟨q, j, none⟩ v = some (G.put q (cs.set j v)) := by
  rw [store_own h.hq h.bq h.hn, if_pos (by simpa using hj)]
theorem Vr.loadA {G : Heap} {q ty n m : Nat} {cs : List Value} (h : Vr G q ty n cs) (hm : cs.length = m) : G.loadN ⟨q, 0, none⟩ 0 m = some cs := by
  rw [loadN_at h.hq h.bq (by simp; omega) h.hn]
  simp [← hm]
theorem Vr.storeA {G : Heap} {q ty n : Nat} {cs : List Value} (h : Vr G q ty n cs) {m : Nat} (hm : 0 < m) (row : List Value) (hr : row.length = m) (hc : cs.length = m) : sStore G m (ptr q) (.agg row.toArray) = some (G.put q row) := by
  rw [sStore_agg _ _ _ _ hr hm, storeN_at h.hq h.bq (by simp; omega) h.hn]
  simp [hr]
  rw [List.drop_of_length_le (by omega), List.append_nil]
theorem Vr.same {G : Heap} {q ty n : Nat} {cs : List Value} (h : Vr G q ty n cs) : G.put q cs = G := put_self h.bq
/-- A new row, and nothing else. -/
structure Row (H H1 : Heap) (ety sz n : Nat) (cells : List Value) (y : Value) : Prop where
  own : Own H1 ety sz n cells y
  on : On H H1
  new : ∀ b, blkOf y = some b → H.next ≤ b
theorem Row.nil {H : Heap} (hw : H.WF) (ety sz : Nat) : Row H H ety sz 0 [] (.slice none 0 0) := ⟨Own.nil _ _ _, On.refl hw, fun b hb => (by cases hb)⟩
theorem Own.on {H H1 : Heap} (hw : H.WF) {ety sz n : Nat} {cells : List Value} {y : Value} (h : Own H ety sz n cells y) (o : On H H1) : Own H1 ety sz n cells y := h.keep (B_eq o.base) (fun b hb => o.keep b (h.lt hw hb))
theorem Own.fr {H H1 : Heap} {p : Nat} (hw : H.WF) {ety sz n : Nat} {cells : List Value} {y : Value} (h : Own H ety sz n cells y) (hp : blkOf y ≠ some p) (o : Fr H H1 p) : Own H1 ety sz n cells y := h.keep (B_eq o.base) (fun b hb => o.keep b (h.lt hw hb) (fun e => hp (by rw [hb, e])))
/-! ### the store -/
abbrev Lk := Int × Int
def lk (l : List Lk) : List Value := (l.map fun q => [iv q.1, iv q.2]).flatten
theorem lk_len (l : List Lk) : (lk l).length = l.length * 2 := by
  induction l with
  | nil => rfl
  | cons a l ih => simp [lk] at ih ⊢; omega
theorem lk_append (a b : List Lk) : lk (a ++ b) = lk a ++ lk b := by simp [lk]
theorem lk_get (l : List Lk) {i : Nat} (hi : i < l.length) : (lk l)[i * 2]? = some (iv l[i].1) ∧ (lk l)[i * 2 + 1]? = some (iv l[i].2) := by
  have hs : ∀ r ∈ l.map (fun q => [iv q.1, iv q.2]), r.length = 2 := by
    intro r hr; obtain ⟨q, _, rfl⟩ := List.mem_map.1 hr; rfl
  have h0 := flatten_get hs (i := i) (by simpa using hi) (j := 0) (by simp)
  have h1 := flatten_get hs (i := i) (by simpa using hi) (j := 1) (by simp)
  simp only [List.getElem_map, Nat.add_zero] at h0 h1
  exact ⟨h0, h1⟩
/-- A chain. -/
def Chn (H : Heap) (x : Value) (l : List Lk) : Prop :=
  (x = .slice none 0 0 ∧ l = []) ∨ ∃ b c rest, x = .slice (some ⟨b, 0, none⟩) l.length c ∧ (c = 0 ∨ c = 1) ∧ ¬ b < H.B ∧ H.blk b = some ⟨65, 2, lk l ++ rest⟩
theorem Chn.len {H : Heap} {x : Value} {l : List Lk} (h : Chn H x l) : ∃ a c, x = .slice a l.length c := by
  rcases h with ⟨rfl, rfl⟩ | ⟨b, c, rest, rfl, _⟩ <;> exact ⟨_, _, rfl⟩
theorem Chn.get {H : Heap} {x : Value} {l : List Lk} (h : Chn H x l) {i : Nat} (hi : i < l.length) : ∃ b c, x = .slice (some ⟨b, 0, none⟩) l.length c ∧ H.load ⟨b, 0 + i * 2, none⟩ = some (iv l[i].1) ∧ H.load ⟨b, 0 + i * 2 + 1, none⟩ = some (iv l[i].2) ∧ H.loadN ⟨b, 0 + i * 2, none⟩ 0 2 = some [iv l[i].1, iv l[i].2] := by
  rcases h with ⟨rfl, rfl⟩ | ⟨b, c, rest, rfl, _, hB, hk⟩
  · simp at hi
  · obtain ⟨g0, g1⟩ := lk_get l hi
    have hl := lk_len l
    have l0 : H.load ⟨b, 0 + i * 2, none⟩ = some (iv l[i].1) := by
      rw [load_at hB hk]
      simp only [Nat.zero_add]
      rw [List.getElem?_append_left (by omega), g0]
    have l1 : H.load ⟨b, 0 + i * 2 + 1, none⟩ = some (iv l[i].2) := by
      rw [load_at hB hk]
      simp only [Nat.zero_add]
      rw [List.getElem?_append_left (by omega), g1]
    refine ⟨b, c, rfl, l0, l1, ?_⟩
    have := loadN_cells (H := H) (b := b) (off := 0 + i * 2) (l := [iv l[i].1, iv l[i].2]) (i := 0) (fun j hj => by
      have hj2 : j < 2 := by simpa using hj
      rcases j with - | - | j
      · exact l0
      · exact l1
      · omega)
    simpa using this
theorem Chn.keep {H H' : Heap} {x : Value} {l : List Lk} (h : Chn H x l) (hB : H'.B = H.B) (hk : ∀ b, blkOf x = some b → H'.blk b = H.blk b) : Chn H' x l := by
  rcases h with h | ⟨b, c, rest, rfl, hc, h1, h2⟩
  · exact .inl h
  · exact .inr ⟨b, c, rest, rfl, hc, by rw [hB]; exact h1, by rw [hk b rfl]; exact h2⟩
theorem Chn.lt {H : Heap} (hw : H.WF) {x : Value} {l : List Lk} (h : Chn H x l) {b : Nat} (hb : blkOf x = some b) : b < H.next := by
  rcases h with ⟨rfl, _⟩ | ⟨c, k, rest, rfl, _, _, h2⟩
  · cases hb
  · cases hb; exact hw.lt h2
/-- A map of numbers. -/
def MapI (es : List MEnt) : Prop := ∀ e ∈ es, ∃ k v, e.key = iv k ∧ e.val = iv v
structure SD where
  pa : Nat
  fb : Nat
  ub : Nat
  vb : Nat
  cb : Nat
  mb : Nat
  fr : List Int
  us : List Bool
  vals : List Int
  xs : List Value
  ch : List (List Lk)
structure ST (H : Heap) (p : Nat) (D : SD) : Prop where
  hp : ¬ p < H.B
  bp : H.blk p = some ⟨60, 4, [ptr D.pa, sl D.vb D.vals.length, sl D.cb D.xs.length, .map (some D.mb)]⟩
  ar : AR H D.pa D.fb D.ub D.fr D.us
  hv : ¬ D.vb < H.B
  bv : H.blk D.vb = some ⟨2, 1, D.vals.map iv⟩
  hc : ¬ D.cb < H.B
  bc : H.blk D.cb = some ⟨66, 1, D.xs⟩
  hm : ¬ D.mb < H.B
  mp : ∃ c es, H.blk D.mb = some ⟨0, 0, mcells c es⟩ ∧ MapI es
  len : D.xs.length = D.ch.length
  cn : ∀ i (h : i < D.xs.length) (h' : i < D.ch.length), Chn H D.xs[i] D.ch[i]
  apart : ∀ i j (hi : i < D.xs.length) (hj : j < D.xs.length) b, i ≠ j → blkOf D.xs[i] = some b → blkOf D.xs[j] ≠ some b
theorem AR.keep {H H' : Heap} {p fb ub : Nat} {fr : List Int} {us : List Bool} (h : AR H p fb ub fr us) (hB : H'.B = H.B) (h1 : H'.blk p = H.blk p) (h2 : H'.blk fb = H.blk fb) (h3 : H'.blk ub = H.blk ub) : AR H' p fb ub fr us :=
  ⟨by rw [hB]; exact h.hp, by rw [hB]; exact h.hf, by rw [hB]; exact h.hu, h.pf, h.pu, h.fu, by rw [h1]; exact h.bp, by rw [h3]; exact h.bu, by rw [h2]; exact h.bf⟩
theorem AR.ltf {H : Heap} (hw : H.WF) {p fb ub : Nat} {fr : List Int} {us : List Bool} (h : AR H p fb ub fr us) : fb < H.next := by obtain ⟨r, hr⟩ := h.bf; exact hw.lt hr
theorem ST.on {H H1 : Heap} (hw : H.WF) {p : Nat} {D : SD} (h : ST H p D) (o : On H H1) : ST H1 p D := by
  have hB := B_eq o.base
  obtain ⟨c, es, hmk, hmi⟩ := h.mp
  refine ⟨by rw [hB]; exact h.hp, by rw [o.keep p (hw.lt h.bp)]; exact h.bp, h.ar.keep hB (o.keep _ (hw.lt h.ar.bp)) (o.keep _ (h.ar.ltf hw)) (o.keep _ (hw.lt h.ar.bu)), by rw [hB]; exact h.hv, by rw [o.keep _ (hw.lt h.bv)]; exact h.bv, by rw [hB]; exact h.hc, by rw [o.keep _ (hw.lt h.bc)]; exact h.bc, by rw [hB]; exact h.hm, ⟨c, es, by rw [o.keep _ (hw.lt hmk)]; exact hmk, hmi⟩, h.len, fun i h1 h2 => (h.cn i h1 h2).keep hB (fun b hb => o.keep b ((h.cn i h1 h2).lt hw hb)), h.apart⟩
section
variable {H : Heap} {p : Nat} {D : SD} (h : ST H p D)
include h
theorem ST.l0 : H.load ⟨p, 0, none⟩ = some (ptr D.pa) := by rw [load_at h.hp h.bp]; rfl
theorem ST.l1 : H.load ⟨p, 1, none⟩ = some (sl D.vb D.vals.length) := by rw [load_at h.hp h.bp]; rfl
theorem ST.l2 : H.load ⟨p, 2, none⟩ = some (sl D.cb D.xs.length) := by rw [load_at h.hp h.bp]; rfl
theorem ST.l3 : H.load ⟨p, 3, none⟩ = some (.map (some D.mb)) := by rw [load_at h.hp h.bp]; rfl
theorem ST.lc {i : Nat} (hi : i < D.xs.length) : H.load ⟨D.cb, i, none⟩ = some D.xs[i] := by rw [load_at h.hc h.bc]; simp [hi]
theorem ST.lv {i : Nat} (hi : i < D.vals.length) : H.load ⟨D.vb, i, none⟩ = some (iv D.vals[i]) := by rw [load_at h.hv h.bv]; simp [hi]
end
def inV (D : SD) (at_ : Int) : Bool := decide (0 ≤ at_) && decide (at_ < D.xs.length)
theorem inside_T {H : Heap} {p : Nat} {D : SD} (h : ST H p D) (a : Int) : T Try.prog 19 [ptr p, iv a] H (.bool (inV D a)) H := by
  refine T_eq hm light19 ?_
  by_cases h0 : 0 ≤ a
  · simp [L19, h0, h.l2, inV]
  · simp [L19, h0, inV]
def Rise (l : List Lk) : Prop := l.Pairwise fun a b => a.1 < b.1
structure PlaceV (l : List Lk) (age : Int) (i : Nat) : Prop where
  le : i ≤ l.length
  lo : ∀ q (h : q < l.length), q < i → l[q].1 < age
  hi : ∀ q (h : q < l.length), i ≤ q → age ≤ l[q].1
def isAt (l : List Lk) (i : Nat) (age : Int) : Bool := match l[i]? with | some q => decide (q.1 = age) | none => false
theorem less_T {H : Heap} {x : Value} {l : List Lk} (hx : Chn H x l) {pc pg : Nat} {age : Int} (a1 : H.load ⟨pc, 0, none⟩ = some x) (a2 : H.load ⟨pg, 0, none⟩ = some (iv age)) {k : Nat} (hk : k < l.length) :
    T Try.prog 36 [iv k, ptr pc, ptr pg] H (.bool (decide (age ≤ l[k].1))) H := by
  obtain ⟨b, c, hxb, l0, _, _⟩ := hx.get hk
  rw [hxb] at a1
  have hkI : (k : Int) < (l.length : Int) := by omega
  refine T_eq hm light36 ?_
  simp only [Nat.zero_add] at l0
  simp [L36, a1, a2, hk, hkI, l0]
theorem place_T {H : Heap} (hw : H.WF) {p : Nat} {D : SD} (h : ST H p D) {a : Nat} (ha : a < D.xs.length) (ha' : a < D.ch.length) (hr : Rise D.ch[a]) (hl : D.ch[a].length ≤ 100000) (age : Int) :
    ∃ i : Nat, PlaceV D.ch[a] age i ∧ T Try.prog 20 [ptr p, iv a, iv age] H (.tuple #[iv i, .bool (isAt D.ch[a] i age)]) H := by
  have : ∃ v H', T Try.prog 20 [ptr p, iv a, iv age] H v H' ∧ (∃ i : Nat, PlaceV D.ch[a] age i ∧ v = .tuple #[iv i, .bool (isAt D.ch[a] i age)]) ∧ ∀ b, b < H.next → H'.blk b = H.blk b := by
    refine T_by hm light20 ?_
    obtain ⟨HA, hHA⟩ : ∃ HA, HA = H.new 3 1 [iv age] := ⟨_, rfl⟩
    have onA : On H HA := by rw [hHA]; exact (On.refl hw).new _ _ _
    have nA : HA.next = H.next + 1 := by rw [hHA]; simp
    have vA : Vr HA H.next 3 1 [iv age] := by rw [hHA]; exact Vr.mk' hw _ _ _
    have sA := h.on hw onA
    obtain ⟨l, hlD⟩ : ∃ l, l = D.ch[a] := ⟨_, rfl⟩
    obtain ⟨x, hxD⟩ : ∃ x, x = D.xs[a] := ⟨_, rfl⟩
    have cnA : Chn HA x l := by rw [hlD, hxD]; exact sA.cn a ha ha'
    rw [← hlD] at hr hl ⊢
    have haI : (a : Int) < (D.xs.length : Int) := by omega
    have lc := sA.lc ha
    rw [← hxD] at lc
    obtain ⟨HB, hHB⟩ : ∃ HB, HB = HA.new 66 1 [x] := ⟨_, rfl⟩
    have onB : On HA HB := by rw [hHB]; exact (On.refl onA.wf).new _ _ _
    have vB : Vr HB HA.next 66 1 [x] := by rw [hHB]; exact Vr.mk' onA.wf _ _ _
    have vA2 : Vr HB H.next 3 1 [iv age] := vA.on onA.wf onB
    have on := onA.trans onB
    have cnB : Chn HB x l := cnA.keep (B_eq onB.base) (fun b hb => onB.keep b (cnA.lt onA.wf hb))
    obtain ⟨ax, cx, hx⟩ := cnB.len
    have a1 : HB.load ⟨HA.next, 0, none⟩ = some x := vB.load 0
    have a2 : HB.load ⟨H.next, 0, none⟩ = some (iv age) := vA2.load 0
    obtain ⟨pr, hpr⟩ : ∃ pr : Nat → Bool, pr = fun k => decide (age ≤ (l.getD k (0, 0)).1) := ⟨_, rfl⟩
    have hS : SaysB HB (.func (.func 36) #[] #[ptr HA.next, ptr H.next]) pr l.length := by
      intro k hk
      refine ⟨36, #[], _, rfl, ⟨Try.f36, Try.func36, rfl, by kernel_rfl⟩, ?_⟩
      have := less_T cnB a1 a2 hk
      rw [hpr]
      simp only [List.getD, List.getElem?_eq_getElem hk, Option.getD_some]
      exact this
    have mono : ∀ u v, u ≤ v → v < l.length → pr u = true → pr v = true := by
      intro u v huv hv hu
      rw [hpr] at hu ⊢
      have hul : u < l.length := by omega
      simp only [List.getD, List.getElem?_eq_getElem hul, List.getElem?_eq_getElem hv, Option.getD_some, decide_eq_true_eq] at hu ⊢
      by_cases he : u = v
      · subst he; exact hu
      · have := List.pairwise_iff_getElem.1 hr u v hul hv (by omega)
        omega
    obtain ⟨i, hT, hil, hlo, hhi⟩ := search_T hS (by omega) mono
    have hP : PlaceV l age i := ⟨hil, fun q hq hqi => by
      have := hlo q hqi
      rw [hpr] at this
      simp only [List.getD, List.getElem?_eq_getElem hq, Option.getD_some, decide_eq_false_iff_not] at this
      omega, fun q hq hqi => by
      have := hhi q hqi hq
      rw [hpr] at this
      simpa only [List.getD, List.getElem?_eq_getElem hq, Option.getD_some, decide_eq_true_eq] using this⟩
    have keep := on.keep
    have l2 := sA.l2
    have st : sStore (HA.new 66 1 [.slice none 0 0]) 1 (ptr HA.next) x = some HB := by
      have V0 : Vr (HA.new 66 1 [.slice none 0 0]) HA.next 66 1 [.slice none 0 0] := Vr.mk' onA.wf _ _ _
      have := V0.store 0 x (by simp)
      rw [hx] at this ⊢
      rw [sStore_slice, this, hHB, new_put, ← hx]
      rfl
    rw [nA] at st
    rw [nA] at a1 hT
    rw [hx] at a1
    simp [L20, ← hHA, nA, l2, ha, haI, lc, st, a1]
    refine ⟨⟨rfl, rfl⟩, ?_⟩
    refine goT_of hT ?_
    by_cases hil2 : i < l.length
    · have hiI : (i : Int) < (l.length : Int) := by omega
      obtain ⟨b, c, hxb, ld0, _, _⟩ := cnB.get hil2
      simp only [Nat.zero_add] at ld0
      rw [hx] at hxb
      simp only [Value.slice.injEq] at hxb
      obtain ⟨rfl, _, rfl⟩ := hxb
      have hat : isAt l i age = decide (l[i].1 = age) := by unfold isAt; rw [List.getElem?_eq_getElem hil2]
      have hbe : (l[i].1 == age) = decide (l[i].1 = age) := by rw [Bool.eq_iff_iff]; simp
      simp [a1, hil2, hiI, ld0, a2, hbe]
      exact ⟨⟨i, hP, rfl, by rw [hat]⟩, keep⟩
    · have hiI : ¬ (i : Int) < (l.length : Int) := by omega
      have hat : isAt l i age = false := by unfold isAt; rw [List.getElem?_eq_none (by omega)]
      simp [a1, hil2, hiI]
      exact ⟨⟨i, hP, rfl, by rw [hat]⟩, keep⟩
  obtain ⟨v, H', hT, ⟨i, hi, rfl⟩, hk⟩ := this
  exact ⟨i, hi, T_forget hT hk rfl⟩
end Go.Proofs.Ythclcdboialfnaa
