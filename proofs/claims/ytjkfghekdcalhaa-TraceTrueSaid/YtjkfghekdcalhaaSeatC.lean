/-
  Chapter 27: what was told so far: plainly, and where it stands. Chapter 27: lean, word, holds. Chapter 27: an event: what is refused at once; a task begins; what is read, written, put out, put in. Chapter 27: an event: what is refused at once; a task begins; what is read, written, put out, put in; a task begins anew. Chapter 27: the loops of a commit: what was written goes into a memory; what was put in is joined.
-/
import Derived.Test.YtjkfghekdcalhaaSeatBF
namespace Go.Proofs.Ytjkfghekdcalhaa
open Go.Ot Go.RowKit
open R14 (Twos ci joinV addN ontoN)
set_option linter.unusedSimpArgs false
set_option linter.unusedVariables false
structure Ev where
  kind : Int
  who : Int
  age : Int
  at' : Int
  value : Int
  from' : Int
abbrev evC (x : Ev) : List Value := [iv x.kind, iv x.who, iv x.age, iv x.at', iv x.value, iv x.from']
def rows2 (l : List (Int × Int)) : List (List Value) := l.map fun c => [iv c.1, iv c.2]
def c2 (l : List (Int × Int)) : List Value := (rows2 l).flatten
theorem c2_snoc (l : List (Int × Int)) (c : Int × Int) : c2 (l ++ [c]) = c2 l ++ [iv c.1, iv c.2] := by simp [c2, rows2]
theorem c2_len (l : List (Int × Int)) : (c2 l).length = l.length * 2 := by
  induction l with
  | nil => rfl
  | cons a l ih => simp only [c2, rows2, List.map_cons, List.flatten_cons, List.length_append, List.length_cons, List.length_nil] at ih ⊢; omega
theorem own_rows2 {H : Heap} {ety : Nat} {l : List (Int × Int)} {x : Value} (h : Own H ety 2 l.length (c2 l) x) : Rws H 2 x (rows2 l) := by
  have h' : Own H ety 2 (rows2 l).length (rows2 l).flatten x := by rw [rows2, List.length_map]; exact h
  exact h'.rws (fun r hr => by simp [rows2] at hr; obtain ⟨a, b, _, rfl⟩ := hr; rfl)
/-- An attempt, as told. -/
structure Tr where
  reads : List (Int × Int)
  writes : List (Int × Int)
  outs : List Int
  intos : List (Int × Int)
  deriving DecidableEq
def Tr.none : Tr := ⟨[], [], [], []⟩
/-- All that was told. -/
structure BS where
  mem : List Int
  outs : List Int
  reds : List Int
  fa : Int
  fo : Int
  fv : Int
  count : Nat
  tries : List (Option Tr)
def leanV (x : Ev) : Bool :=
  if x.kind = 1 then decide (x.at' = 0 ∧ x.value = 0 ∧ x.from' = 0)
  else if x.kind = 2 then decide (x.who = 0)
  else if x.kind = 3 ∨ x.kind = 5 ∨ x.kind = 8 then decide (x.who = 0 ∧ x.from' = 0)
  else if x.kind = 4 then decide (x.who = 0 ∧ x.at' = 0 ∧ x.from' = 0)
  else decide (x.who = 0 ∧ x.at' = 0 ∧ x.value = 0 ∧ x.from' = 0)
def holdsV (m : List Int) (l : List (Int × Int)) : Bool := l.all fun r => decide (m.getD r.1.toNat 0 = r.2)
def setM (m : List Int) (l : List (Int × Int)) : List Int := l.foldl (fun m c => m.set c.1.toNat c.2) m
theorem setM_len (m : List Int) (l : List (Int × Int)) : (setM m l).length = m.length := foldl_set_len l m
theorem setM_snoc (m : List Int) (l : List (Int × Int)) (c : Int × Int) : setM m (l ++ [c]) = (setM m l).set c.1.toNat c.2 := by simp [setM]
def zer (ops : List Int) : List Int := ops.map R14.zeroV
def addsV (ops : List Int) (l : List (Int × Int)) : List Int := l.foldl (fun now c => addN ops now c.1 c.2) (zer ops)
/-- What can be seen behind a commit. -/
def commitV (J : Jb) (S : BS) (a : Nat) (t : Tr) : BS :=
  { S with mem := setM S.mem t.writes, outs := S.outs ++ t.outs, reds := ontoN (J.reds.map Prod.fst) S.reds (addsV (J.reds.map Prod.fst) t.intos) J.reds.length, count := S.count + 1, tries := S.tries.set a none }
def wordB (W x : Int) : Bool := decide (0 ≤ x) && decide (x < W)
/-- What an attempt tells may be. -/
structure TrOk (J : Jb) (k : Nat) (t : Tr) : Prop where
  r : ∀ c ∈ t.reads, 0 ≤ c.1 ∧ c.1 < J.words
  w : ∀ c ∈ t.writes, 0 ≤ c.1 ∧ c.1 < J.words
  n : ∀ c ∈ t.intos, 0 ≤ c.1 ∧ c.1 < J.reds.length
  lr : t.reads.length ≤ k
  lw : t.writes.length ≤ k
  lo : t.outs.length ≤ k
  ln : t.intos.length ≤ k
structure SOk (J : Jb) (k : Nat) (S : BS) : Prop where
  mem : (S.mem.length : Int) = J.words
  outs : S.outs.length ≤ k * k
  reds : S.reds.length = J.reds.length
  tl : S.tries.length = 200
  cnt : S.count ≤ k
  tr : ∀ (i : Nat) t, S.tries[i]? = some (some t) → TrOk J k t
/-- Where an attempt stands; to whom the blocks belong is told by `ow`. -/
structure TrH (H : Heap) (ow : Nat → Nat) (i q : Nat) (t : Tr) (yr yw yo yi : Value) : Prop where
  vq : Vr H q 109 4 [yr, yw, yo, yi]
  r : Own H 111 2 t.reads.length (c2 t.reads) yr
  w : Own H 111 2 t.writes.length (c2 t.writes) yw
  o : Own H 2 1 t.outs.length (ci t.outs) yo
  n : Own H 97 2 t.intos.length (c2 t.intos) yi
  lq : ow q = 5 * i
  lr : ∀ b, blkOf yr = some b → ow b = 5 * i + 1
  lw : ∀ b, blkOf yw = some b → ow b = 5 * i + 2
  lo : ∀ b, blkOf yo = some b → ow b = 5 * i + 3
  ln : ∀ b, blkOf yi = some b → ow b = 5 * i + 4
theorem TrH.keep {H H' : Heap} (hw : H.WF) {ow ow' : Nat → Nat} {i q : Nat} {t : Tr} {yr yw yo yi : Value} (h : TrH H ow i q t yr yw yo yi) (hb : H'.base = H.base)
    (hk : ∀ b, b < H.next → 5 * i ≤ ow b → ow b < 5 * i + 5 → H'.blk b = H.blk b) (ho : ∀ b, b < H.next → ow' b = ow b) : TrH H' ow' i q t yr yw yo yi := by
  have bq := hw.lt h.vq.bq
  have e1 := fun b hb => h.r.lt hw (b := b) hb
  have e2 := fun b hb => h.w.lt hw (b := b) hb
  have e3 := fun b hb => h.o.lt hw (b := b) hb
  have e4 := fun b hb => h.n.lt hw (b := b) hb
  refine ⟨h.vq.keep hb (hk q bq (by have := h.lq; omega) (by have := h.lq; omega)), h.r.keep (B_eq hb) fun b hx => hk b (e1 b hx) ?_ ?_, h.w.keep (B_eq hb) fun b hx => hk b (e2 b hx) ?_ ?_, h.o.keep (B_eq hb) fun b hx => hk b (e3 b hx) ?_ ?_,
    h.n.keep (B_eq hb) fun b hx => hk b (e4 b hx) ?_ ?_, by rw [ho q bq]; exact h.lq, fun b hx => by rw [ho b (e1 b hx)]; exact h.lr b hx, fun b hx => by rw [ho b (e2 b hx)]; exact h.lw b hx, fun b hx => by rw [ho b (e3 b hx)]; exact h.lo b hx, fun b hx => by rw [ho b (e4 b hx)]; exact h.ln b hx⟩
  all_goals first | (have := h.lr b hx; omega) | (have := h.lw b hx; omega) | (have := h.lo b hx; omega) | (have := h.ln b hx; omega)
abbrev bkC (J : Jb) (n : Int) (pt : List Value) (xm xo xr : Value) (S : BS) (wh : Bool) : List Value :=
  jobC J ++ (iv n :: (pt ++ [xm, xo, xr, iv S.fa, iv S.fo, iv S.fv, iv S.count, .bool wh]))
/-- Where all stands that was told. -/
structure BK (H0 H : Heap) (p : Nat) (ow : Nat → Nat) (J : Jb) (n : Int) (wh : Bool) (S : BS) (pt : List Value) (xm xo xr : Value) : Prop where
  on : On H0 H
  vp : Vr H p 81 220 (bkC J n pt xm xo xr S wh)
  lp : ow p = 2000
  old : ∀ b, b < H0.next → ow b = 9999
  m : Own H 2 1 S.mem.length (ci S.mem) xm
  o : Own H 2 1 S.outs.length (ci S.outs) xo
  r : Own H 2 1 S.reds.length (ci S.reds) xr
  lm : ∀ b, blkOf xm = some b → ow b = 2001
  lo : ∀ b, blkOf xo = some b → ow b = 2002
  lr : ∀ b, blkOf xr = some b → ow b = 2003
  pl : pt.length = 200
  tl : S.tries.length = 200
  tr : ∀ i, i < 200 → (S.tries[i]? = some none ∧ pt[i]? = some (.pointer none)) ∨ ∃ t q yr yw yo yi, S.tries[i]? = some (some t) ∧ pt[i]? = some (ptr q) ∧ TrH H ow i q t yr yw yo yi
/-- What is read of it. -/
structure BL (H : Heap) (p : Nat) (J : Jb) (n : Int) (pt : List Value) (xm xo xr : Value) (S : BS) (wh : Bool) : Prop where
  l0 : H.load ⟨p, 0, none⟩ = some (iv J.words)
  l2 : H.load ⟨p, 2, none⟩ = some J.xr
  l11 : H.load ⟨p, 11, none⟩ = some (iv n)
  lt : ∀ i : Nat, i < 200 → H.load ⟨p, 12 + i, none⟩ = pt[i]?
  lm : H.load ⟨p, 212, none⟩ = some xm
  lo : H.load ⟨p, 213, none⟩ = some xo
  lr : H.load ⟨p, 214, none⟩ = some xr
  lf : H.load ⟨p, 216, none⟩ = some (iv S.fo)
  lc : H.load ⟨p, 218, none⟩ = some (iv S.count)
  lw : H.load ⟨p, 219, none⟩ = some (.bool wh)
  now : H.loadN ⟨p, 212, none⟩ 0 7 = some [xm, xo, xr, iv S.fa, iv S.fo, iv S.fv, iv S.count]
theorem BL.of {H : Heap} {p : Nat} {J : Jb} {n : Int} {pt : List Value} {xm xo xr : Value} {S : BS} {wh : Bool} (v : Vr H p 81 220 (bkC J n pt xm xo xr S wh)) (pl : pt.length = 200) : BL H p J n pt xm xo xr S wh := by
  have tail : ∀ j, j < 8 → H.load ⟨p, 212 + j, none⟩ = [xm, xo, xr, iv S.fa, iv S.fo, iv S.fv, iv S.count, .bool wh][j]? := fun j hj => by
    rw [v.load, bkC, List.getElem?_append_right (by simp; omega), show 212 + j - (jobC J).length = (200 + j) + 1 from by simp; omega, List.getElem?_cons_succ, List.getElem?_append_right (by omega), pl, show 200 + j - 200 = j by omega]
  refine ⟨v.load 0, v.load 2, v.load 11, fun i hi => ?_, tail 0 (by decide), tail 1 (by decide), tail 2 (by decide), tail 4 (by decide), tail 6 (by decide), tail 7 (by decide), ?_⟩
  · rw [v.load, bkC, List.getElem?_append_right (by simp; omega), show 12 + i - (jobC J).length = i + 1 from by simp; omega, List.getElem?_cons_succ, List.getElem?_append_left (by omega)]
  · exact loadN_cells (H := H) (b := p) (off := 212) (l := [xm, xo, xr, iv S.fa, iv S.fo, iv S.fv, iv S.count]) (i := 0) (fun j hj => by
      have hj7 : j < 7 := hj
      rw [Nat.add_zero, tail j (by omega)]
      match j, hj7 with
      | 0, _ => rfl
      | 1, _ => rfl
      | 2, _ => rfl
      | 3, _ => rfl
      | 4, _ => rfl
      | 5, _ => rfl
      | 6, _ => rfl)
/-- Attempt i is told anew; nothing else is touched. -/
theorem BK.tset {H0 H H' : Heap} {p : Nat} {ow ow' : Nat → Nat} {J : Jb} {n : Int} {wh : Bool} {S : BS} {pt : List Value} {xm xo xr : Value} (B : BK H0 H p ow J n wh S pt xm xo xr) {i : Nat} (hi : i < 200)
    (w : H'.WF) (hb : H'.base = H.base) (hn : H.next ≤ H'.next) (hk : ∀ b, b < H.next → ¬ (5 * i ≤ ow b ∧ ow b < 5 * i + 5) → H'.blk b = H.blk b) (ho : ∀ b, b < H.next → ow' b = ow b)
    {t' : Tr} {q : Nat} {yr yw yo yi : Value} (hq : pt[i]? = some (ptr q)) (T' : TrH H' ow' i q t' yr yw yo yi) : BK H0 H' p ow' J n wh { S with tries := S.tries.set i (some t') } pt xm xo xr := by
  have hw := B.on.wf
  have bp := hw.lt B.vp.bq
  refine ⟨⟨w, hb.trans B.on.base, Nat.le_trans B.on.next hn, fun b hx => ?_⟩, B.vp.keep hb (hk p bp ?_), by rw [ho p bp]; exact B.lp, fun b hx => ?_, B.m.keep (B_eq hb) fun b hx => hk b (B.m.lt hw hx) ?_, B.o.keep (B_eq hb) fun b hx => hk b (B.o.lt hw hx) ?_, B.r.keep (B_eq hb) fun b hx => hk b (B.r.lt hw hx) ?_,
    fun b hx => by rw [ho b (B.m.lt hw hx)]; exact B.lm b hx, fun b hx => by rw [ho b (B.o.lt hw hx)]; exact B.lo b hx, fun b hx => by rw [ho b (B.r.lt hw hx)]; exact B.lr b hx, B.pl, by simp [B.tl], fun j hj => ?_⟩
  · have h1 := B.old b hx
    have h2 := B.on.next
    rw [hk b (by omega) (by omega), B.on.keep b hx]
  · have := B.lp; omega
  · have h2 := B.on.next
    rw [ho b (by omega)]; exact B.old b hx
  · have := B.lm b hx; omega
  · have := B.lo b hx; omega
  · have := B.lr b hx; omega
  · by_cases e : i = j
    · subst e
      exact .inr ⟨t', q, yr, yw, yo, yi, by simp [List.getElem?_set, B.tl, hi], hq, T'⟩
    · rcases B.tr j hj with ⟨h1, h2⟩ | ⟨t, q2, a, b, c, d, h1, h2, h3⟩
      · exact .inl ⟨by simp [List.getElem?_set, e, h1], h2⟩
      · exact .inr ⟨t, q2, a, b, c, d, by simp [List.getElem?_set, e, h1], h2, h3.keep hw hb (fun b hb h4 h5 => hk b hb (by omega)) ho⟩
/-- Nothing that is told is touched. -/
theorem BK.grow {H0 H H' : Heap} {p : Nat} {ow ow' : Nat → Nat} {J : Jb} {n : Int} {wh : Bool} {S : BS} {pt : List Value} {xm xo xr : Value} (B : BK H0 H p ow J n wh S pt xm xo xr) (o : On H H') (ho : ∀ b, b < H.next → ow' b = ow b) : BK H0 H' p ow' J n wh S pt xm xo xr := by
  have hw := B.on.wf
  have bp := hw.lt B.vp.bq
  exact ⟨B.on.trans o, B.vp.on hw o, by rw [ho p bp]; exact B.lp, fun b hx => by have h2 := B.on.next; rw [ho b (by omega)]; exact B.old b hx, Own.on hw B.m o, Own.on hw B.o o, Own.on hw B.r o,
    fun b hx => by rw [ho b (B.m.lt hw hx)]; exact B.lm b hx, fun b hx => by rw [ho b (B.o.lt hw hx)]; exact B.lo b hx, fun b hx => by rw [ho b (B.r.lt hw hx)]; exact B.lr b hx, B.pl, B.tl, fun j hj => by
      rcases B.tr j hj with h | ⟨t, q2, a, b, c, d, h1, h2, h3⟩
      · exact .inl h
      · exact .inr ⟨t, q2, a, b, c, d, h1, h2, h3.keep hw o.base (fun b hb _ _ => o.keep b hb) ho⟩⟩
end Go.Proofs.Ytjkfghekdcalhaa
namespace Go.Proofs.Ytjkfghekdcalhaa
open Go.Ot Go.RowKit
open R14 (Twos ci joinV addN ontoN)
set_option linter.unusedSimpArgs false
set_option linter.unusedVariables false
theorem word_T {H : Heap} {p : Nat} {J : Jb} {n : Int} {pt : List Value} {xm xo xr : Value} {S : BS} {wh : Bool} (L : BL H p J n pt xm xo xr S wh) (x : Int) : T Try.prog 42 [ptr p, iv x] H (.bool (wordB J.words x)) H := by
  refine T_eq hm light42 ?_
  have l0 := L.l0
  unfold wordB
  by_cases h1 : 0 ≤ x
  · simp [L42, h1, l0]
  · simp [L42, h1]
def InvHo (H : Heap) (p q : Nat) (y : Value) (l : List (Int × Int)) (m : List Int) (k : Nat) (t : Tm) (H1 : Heap) : Prop :=
  ∃ i : Nat, i + k = l.length ∧ t 0 = ptr p ∧ t 1 = ptr q ∧ t 10 = y ∧ t 11 = iv l.length ∧ t 12 = iv i ∧ holdsV m (l.drop i) = holdsV m l ∧ On H H1
theorem holds_T {H : Heap} (hw : H.WF) {p q : Nat} {xm y yw yo yi : Value} {m : List Int} {l : List (Int × Int)} (lm : H.load ⟨p, 212, none⟩ = some xm) (hmm : Own H 2 1 m.length (ci m) xm) (vq : Vr H q 109 4 [y, yw, yo, yi]) (hy : Own H 111 2 l.length (c2 l) y)
    (hr : ∀ c ∈ l, 0 ≤ c.1 ∧ c.1 < (m.length : Int)) (hl : l.length ≤ 100000) : T Try.prog 55 [ptr p, ptr q] H (.bool (holdsV m l)) H := by
  obtain ⟨V, hV⟩ : ∃ V, V = holdsV m l := ⟨_, rfl⟩
  rw [← hV]
  refine T_seen hm light55 rfl ?_
  have lq : H.load ⟨q, 0, none⟩ = some y := vq.load 0
  obtain ⟨ay, hye⟩ := hy.len
  rw [hye] at lq
  simp [L55, lq]
  rw [← hye]
  refine loop_at (InvHo H p q y l m) l.length ?_ ?_
  · exact ⟨0, by omega, by simp, by simp, by simp [hye], by simp, by simp, by simp, On.refl hw⟩
  rintro k t H1 ⟨i, hik, t0, t1, t10, t11, t12, hh, on⟩
  cases k with
  | zero =>
    have ei : i = l.length := by omega
    have e1 : V = true := by rw [hV, ← hh, List.drop_eq_nil_of_le (by omega)]; rfl
    simp [L55_1, t11, t12, ei, e1]
    exact on.keep
  | succ k =>
    have hi : i < l.length := by omega
    have hiI : (i : Int) < (l.length : Int) := by omega
    have e4 : IntKind.i64.wrap ((i : Int) + 1) = ((i + 1 : Nat) : Int) := by rw [w64 _ (by omega)]; omega
    obtain ⟨e, he⟩ : ∃ e, e = l[i] := ⟨_, rfl⟩
    obtain ⟨h0, h1⟩ := hr e (by rw [he]; exact List.getElem_mem hi)
    have hi2 : i < (rows2 l).length := by simpa [rows2] using hi
    obtain ⟨b, off, c, hyb, _, ldx, _⟩ := (Rws.keep hw on.base on.keep (own_rows2 hy)).at hi2
    have er : (rows2 l)[i] = [iv e.1, iv e.2] := by simp [rows2, he]
    have ln2 : (rows2 l).length = l.length := by simp [rows2]
    rw [er] at ldx
    rw [ln2] at hyb
    have t10' := t10.trans hyb
    obtain ⟨j, hj⟩ : ∃ j, j = e.1.toNat := ⟨_, rfl⟩
    have ej : e.1 = (j : Int) := by omega
    have hjm : j < m.length := by omega
    have hjmI : (j : Int) < (m.length : Int) := by omega
    have hold : holdsV m (l.drop i) = (decide (m[j] = e.2) && holdsV m (l.drop (i + 1))) := by
      rw [List.drop_eq_getElem_cons hi, ← he]
      simp [holdsV, ← hj, List.getD, hjm]
    have st := new_storeA on.wf 111 2 [iv 0, iv 0] [iv e.1, iv e.2] rfl rfl (by decide)
    have VE : Vr (H1.new 111 2 [iv e.1, iv e.2]) H1.next 111 2 [iv e.1, iv e.2] := Vr.mk' on.wf _ _ _
    have on2 : On H (H1.new 111 2 [iv e.1, iv e.2]) := on.new _ _ _
    obtain ⟨H2, hH2⟩ : ∃ H2, H2 = H1.new 111 2 [iv e.1, iv e.2] := ⟨_, rfl⟩
    obtain ⟨r, hrr⟩ : ∃ r, r = H1.next := ⟨_, rfl⟩
    rw [← hH2, ← hrr] at st VE
    rw [← hH2] at on2
    have f0 : H2.load ⟨r, 0, none⟩ = some (iv j) := by rw [← ej]; exact VE.load 0
    have f1 : H2.load ⟨r, 1, none⟩ = some (iv e.2) := VE.load 1
    have lm2 := load_keepN hw on2.base on2.keep lm
    obtain ⟨bm, om, cm, hxm, ldm⟩ := (Own.ints (Own.on hw hmm on2)).at hjm
    rw [hxm] at lm2
    rw [hold] at hh
    by_cases hc : m[j] = e.2
    · have c1 : (m[j] != e.2) = false := by simp [hc]
      simp [L55_1, t11, t12, hi, hiI, t10', ldx, st, ← hrr, t0, lm2, f0, f1, hjm, hjmI, ldm, c1, e4]
      exact ⟨k, by omega, i + 1, by omega, by simp [t0], by simp [t1], by simp [t10], by simp [t11], by simp, by rw [← hh]; simp [hc], on2⟩
    · have c1 : (m[j] != e.2) = true := bne_iff_ne.2 hc
      have e1 : V = false := by rw [hV, ← hh]; simp [hc]
      simp [L55_1, t11, t12, hi, hiI, t10', ldx, st, ← hrr, t0, lm2, f0, f1, hjm, hjmI, ldm, c1, e1]
      exact on2.keep
theorem stepG (w : World) {xs ys : Array Value} {f : Field} {fs : List Field} {n m : Int} (hn : f.name ≠ "_") (hk : Try.prog.plainKey f.type = true) (hu : Try.prog.underlying f.type = some (.int .i64)) (hx : xs[f.offset]? = some (iv n)) (hy : ys[f.offset]? = some (iv m)) :
    (Op.eqFields 9999 xs ys (f :: fs)).run Try.prog w = if n = m then (Op.eqFields 9999 xs ys fs).run Try.prog w else .ok false w := by
  simp only [Op.eqFields]
  rw [if_pos hn]
  simp only [Sem.run_bind, run_part_plain w hk hx, run_part_plain w hk hy, Result.andThen_ok, run_equalIn_int w 9998 f.type .i64 .i64 _ _ hu]
  by_cases h : n = m
  · simp [h]
  · simp [h]
def sameEv (x y : Ev) : Bool := decide (x.kind = y.kind ∧ x.who = y.who ∧ x.age = y.age ∧ x.at' = y.at' ∧ x.value = y.value ∧ x.from' = y.from')
set_option maxRecDepth 100000 in
theorem eqEv (x y : Ev) (w : World) : (Op.equal 58 (.agg #[iv x.kind, iv x.who, iv x.age, iv x.at', iv x.value, iv x.from']) (.agg #[iv y.kind, iv y.who, iv y.age, iv y.at', iv y.value, iv y.from'])).run Try.prog w = .ok (sameEv x y) w := by
  have hd : ∀ a b, Op.equal 58 a b = Op.equalIn (9999 + 1) 58 a b := fun _ _ => rfl
  have hf : ∃ f1 f2 f3 f4 f5 f6 : Field, Try.prog.fieldsOf 58 = #[f1, f2, f3, f4, f5, f6] ∧ (f1.name ≠ "_" ∧ f2.name ≠ "_" ∧ f3.name ≠ "_" ∧ f4.name ≠ "_" ∧ f5.name ≠ "_" ∧ f6.name ≠ "_") ∧ (f1.offset = 0 ∧ f2.offset = 1 ∧ f3.offset = 2 ∧ f4.offset = 3 ∧ f5.offset = 4 ∧ f6.offset = 5) ∧
      (Try.prog.underlying f1.type = some (.int .i64) ∧ Try.prog.underlying f2.type = some (.int .i64) ∧ Try.prog.underlying f3.type = some (.int .i64) ∧ Try.prog.underlying f4.type = some (.int .i64) ∧ Try.prog.underlying f5.type = some (.int .i64) ∧ Try.prog.underlying f6.type = some (.int .i64)) ∧
      (Try.prog.plainKey f1.type = true ∧ Try.prog.plainKey f2.type = true ∧ Try.prog.plainKey f3.type = true ∧ Try.prog.plainKey f4.type = true ∧ Try.prog.plainKey f5.type = true ∧ Try.prog.plainKey f6.type = true) ∧ Try.prog.underlying 58 = some (.struct #[f1, f2, f3, f4, f5, f6]) := by
    unfold Program.fieldsOf
    rw [Try.underlying58]
    refine ⟨_, _, _, _, _, _, rfl, ⟨by decide, by decide, by decide, by decide, by decide, by decide⟩, ⟨rfl, rfl, rfl, rfl, rfl, rfl⟩, ⟨?_, ?_, ?_, ?_, ?_, ?_⟩, ⟨by kernel_rfl, by kernel_rfl, by kernel_rfl, by kernel_rfl, by kernel_rfl, by kernel_rfl⟩, rfl⟩ <;> kernel_rfl
  obtain ⟨f1, f2, f3, f4, f5, f6, hf, ⟨n1, n2, n3, n4, n5, n6⟩, ⟨o1, o2, o3, o4, o5, o6⟩, ⟨u1, u2, u3, u4, u5, u6⟩, ⟨k1, k2, k3, k4, k5, k6⟩, hu⟩ := hf
  rw [hd, run_equalIn_struct w 9999 58 _ _ (by rw [hf]; exact hu) (by kernel_rfl), hf]
  show (Op.eqFields 9999 _ _ [f1, f2, f3, f4, f5, f6]).run Try.prog w = _
  rw [stepG (n := x.kind) (m := y.kind) w n1 k1 u1 (by rw [o1]; rfl) (by rw [o1]; rfl), stepG (n := x.who) (m := y.who) w n2 k2 u2 (by rw [o2]; rfl) (by rw [o2]; rfl), stepG (n := x.age) (m := y.age) w n3 k3 u3 (by rw [o3]; rfl) (by rw [o3]; rfl),
    stepG (n := x.at') (m := y.at') w n4 k4 u4 (by rw [o4]; rfl) (by rw [o4]; rfl), stepG (n := x.value) (m := y.value) w n5 k5 u5 (by rw [o5]; rfl) (by rw [o5]; rfl), stepG (n := x.from') (m := y.from') w n6 k6 u6 (by rw [o6]; rfl) (by rw [o6]; rfl)]
  have hz : (Op.eqFields 9999 #[iv x.kind, iv x.who, iv x.age, iv x.at', iv x.value, iv x.from'] #[iv y.kind, iv y.who, iv y.age, iv y.at', iv y.value, iv y.from'] []).run Try.prog w = .ok true w := rfl
  rw [hz]
  unfold sameEv
  by_cases c1 : x.kind = y.kind <;> by_cases c2 : x.who = y.who <;> by_cases c3 : x.age = y.age <;> by_cases c4 : x.at' = y.at' <;> by_cases c5 : x.value = y.value <;> by_cases c6 : x.from' = y.from' <;> simp [c1, c2, c3, c4, c5, c6]
/-- What an event of its kind has. -/
def leanY (x : Ev) : Ev :=
  if x.kind = 1 then ⟨x.kind, x.who, x.age, 0, 0, 0⟩
  else if x.kind = 2 then ⟨x.kind, 0, x.age, x.at', x.value, x.from'⟩
  else if x.kind = 3 ∨ x.kind = 5 ∨ x.kind = 8 then ⟨x.kind, 0, x.age, x.at', x.value, 0⟩
  else if x.kind = 4 then ⟨x.kind, 0, x.age, 0, x.value, 0⟩
  else ⟨x.kind, 0, x.age, 0, 0, 0⟩
theorem lean_eq (x : Ev) : sameEv x (leanY x) = leanV x := by
  unfold sameEv leanY leanV
  split
  · simp [and_assoc]
  split
  · simp
  split
  · simp
  split
  · simp [and_assoc]
  · simp [and_assoc]
theorem lean_T {H : Heap} (hw : H.WF) (x : Ev) : T Try.prog 41 [.agg (evC x).toArray] H (.bool (leanV x)) H := by
  refine T_seen hm light41 rfl ?_
  obtain ⟨HA, hHA⟩ : ∃ HA, HA = H.new 58 6 (evC x) := ⟨_, rfl⟩
  have onA : On H HA := by rw [hHA]; exact (On.refl hw).new _ _ _
  have vA : Vr HA H.next 58 6 (evC x) := by rw [hHA]; exact Vr.mk' hw _ _ _
  have nA : HA.next = H.next + 1 := by rw [hHA]; rfl
  have st := new_storeA onA.wf 58 6 [iv 0, iv 0, iv 0, iv 0, iv 0, iv 0] [iv x.kind, iv 0, iv x.age, iv 0, iv 0, iv 0] rfl rfl (by decide)
  obtain ⟨HB, hHB⟩ : ∃ HB, HB = HA.new 58 6 [iv x.kind, iv 0, iv x.age, iv 0, iv 0, iv 0] := ⟨_, rfl⟩
  have onB : On H HB := by rw [hHB]; exact onA.new _ _ _
  have vB : Vr HB HA.next 58 6 [iv x.kind, iv 0, iv x.age, iv 0, iv 0, iv 0] := by rw [hHB]; exact Vr.mk' onA.wf _ _ _
  have vAB : Vr HB H.next 58 6 (evC x) := by rw [hHB]; exact vA.new onA.wf _ _ _
  rw [← hHB] at st
  rw [nA] at st vB
  have a0 : HA.load ⟨H.next, 0, none⟩ = some (iv x.kind) := vA.load 0
  have a2 : HA.load ⟨H.next, 2, none⟩ = some (iv x.age) := vA.load 2
  have b0 : HB.load ⟨H.next, 0, none⟩ = some (iv x.kind) := vAB.load 0
  -- the end, whatever was filled in
  have fin : ∀ (HC : Heap) (cs : List Value), HC = HB.put (H.next + 1) cs → cs = evC (leanY x) → On H HC ∧ HC.loadN ⟨H.next, 0, none⟩ 0 6 = some (evC x) ∧ HC.loadN ⟨H.next + 1, 0, none⟩ 0 6 = some (evC (leanY x)) := fun HC cs h1 h2 => by
    subst h1
    subst h2
    exact ⟨onB.put (by omega) _, (vAB.beside (show H.next ≠ H.next + 1 by omega) _).loadA rfl, (vB.put _).loadA rfl⟩
  have eqL := eqEv x (leanY x)
  rw [lean_eq] at eqL
  have sv : ∀ (j : Nat) (v : Value) (cs : List Value), j < cs.length → (HB.put (H.next + 1) cs).store ⟨H.next + 1, j, none⟩ v = some ((HB.put (H.next + 1) cs).put (H.next + 1) (cs.set j v)) := fun j v cs hj => (vB.put cs).store j v hj
  have same0 : HB.put (H.next + 1) [iv x.kind, iv 0, iv x.age, iv 0, iv 0, iv 0] = HB := vB.same
  have s0 : ∀ (j : Nat) (v : Value), j < 6 → HB.store ⟨H.next + 1, j, none⟩ v = some (HB.put (H.next + 1) ([iv x.kind, iv 0, iv x.age, iv 0, iv 0, iv 0].set j v)) := fun j v hj => vB.store j v hj
  have ldA : ∀ (HC : Heap) (cs : List Value) (j : Nat), HC = HB.put (H.next + 1) cs → HC.load ⟨H.next, j, none⟩ = (evC x)[j]? := fun HC cs j h => by rw [h]; exact (vAB.beside (show H.next ≠ H.next + 1 by omega) cs).load j
  have stp : ∀ (HC HD : Heap) (cs cs' : List Value) (j : Nat) (v : Value), HC = HB.put (H.next + 1) cs → cs' = cs.set j v → j < cs.length → HD = HB.put (H.next + 1) cs' → HC.store ⟨H.next + 1, j, none⟩ v = some HD := fun HC HD cs cs' j v h1 h2 h3 h4 => by
    subst h1
    rw [sv j v cs h3, h4, h2, put_put]
  have ldB : ∀ j, HB.load ⟨H.next, j, none⟩ = (evC x)[j]? := fun j => vAB.load j
  have b1 : HB.load ⟨H.next, 1, none⟩ = some (iv x.who) := ldB 1
  have b3 : HB.load ⟨H.next, 3, none⟩ = some (iv x.at') := ldB 3
  have b4 : HB.load ⟨H.next, 4, none⟩ = some (iv x.value) := ldB 4
  have b5 : HB.load ⟨H.next, 5, none⟩ = some (iv x.from') := ldB 5
  have hHA2 : H.new 58 6 [iv x.kind, iv x.who, iv x.age, iv x.at', iv x.value, iv x.from'] = HA := hHA.symm
  -- which kind it is
  obtain ⟨k1, hk1⟩ : ∃ b, b = (x.kind == 1) := ⟨_, rfl⟩
  obtain ⟨k2, hk2⟩ : ∃ b, b = (x.kind == 2) := ⟨_, rfl⟩
  obtain ⟨k3, hk3⟩ : ∃ b, b = (x.kind == 3) := ⟨_, rfl⟩
  obtain ⟨k4, hk4⟩ : ∃ b, b = (x.kind == 4) := ⟨_, rfl⟩
  obtain ⟨k5, hk5⟩ : ∃ b, b = (x.kind == 5) := ⟨_, rfl⟩
  obtain ⟨k8, hk8⟩ : ∃ b, b = (x.kind == 8) := ⟨_, rfl⟩
  -- the end, told as lists
  have done : ∀ (HC : Heap) (y : Ev), HC = HB.put (H.next + 1) (evC y) → y = leanY x → HC.loadN ⟨H.next, 0, none⟩ 0 6 = some [iv x.kind, iv x.who, iv x.age, iv x.at', iv x.value, iv x.from'] ∧ HC.loadN ⟨H.next + 1, 0, none⟩ 0 6 = some [iv y.kind, iv y.who, iv y.age, iv y.at', iv y.value, iv y.from'] ∧
      (∀ w, (Op.equal 58 (.agg #[iv x.kind, iv x.who, iv x.age, iv x.at', iv x.value, iv x.from']) (.agg #[iv y.kind, iv y.who, iv y.age, iv y.at', iv y.value, iv y.from'])).run Try.prog w = .ok (leanV x) w) ∧ On H HC := fun HC y h1 h2 => by
    subst h2
    obtain ⟨a, b, c⟩ := fin HC _ h1 rfl
    exact ⟨b, c, eqL, a⟩
  cases k1 with
  | true =>
    have h1 : x.kind = 1 := by simpa using hk1.symm
    obtain ⟨HC, hHC⟩ : ∃ HC, HC = HB.put (H.next + 1) (evC ⟨x.kind, x.who, x.age, 0, 0, 0⟩) := ⟨_, rfl⟩
    have s1 := stp HB HC _ _ 1 (iv x.who) same0.symm rfl (by simp) hHC
    obtain ⟨lA, lB, eq, onC⟩ := done HC _ hHC (by unfold leanY; rw [if_pos h1])
    simp [L41, hHA2, st, nA, a0, a2, b0, b1, ← hk1, s1, lA, lB]
    refine goE_of (b := leanV x) rfl rfl eq ?_
    simp
    exact onC.keep
  | false =>
  have n1 : ¬ x.kind = 1 := by simpa using hk1.symm
  cases k2 with
  | true =>
    have h2 : x.kind = 2 := by simpa using hk2.symm
    obtain ⟨HC, hHC⟩ : ∃ HC, HC = HB.put (H.next + 1) (evC ⟨x.kind, 0, x.age, x.at', 0, 0⟩) := ⟨_, rfl⟩
    obtain ⟨HD, hHD⟩ : ∃ HD, HD = HB.put (H.next + 1) (evC ⟨x.kind, 0, x.age, x.at', x.value, 0⟩) := ⟨_, rfl⟩
    obtain ⟨HE, hHE⟩ : ∃ HE, HE = HB.put (H.next + 1) (evC ⟨x.kind, 0, x.age, x.at', x.value, x.from'⟩) := ⟨_, rfl⟩
    have s1 := stp HB HC _ _ 3 (iv x.at') same0.symm rfl (by simp) hHC
    have s2 := stp HC HD _ _ 4 (iv x.value) hHC rfl (by simp) hHD
    have s3 := stp HD HE _ _ 5 (iv x.from') hHD rfl (by simp) hHE
    have c4 : HC.load ⟨H.next, 4, none⟩ = some (iv x.value) := ldA HC _ 4 hHC
    have c5 : HC.load ⟨H.next, 5, none⟩ = some (iv x.from') := ldA HC _ 5 hHC
    have d5 : HD.load ⟨H.next, 5, none⟩ = some (iv x.from') := ldA HD _ 5 hHD
    obtain ⟨lA, lB, eq, onC⟩ := done HE _ hHE (by unfold leanY; rw [if_neg n1, if_pos h2])
    simp [L41, hHA2, st, nA, a0, a2, b0, b3, b4, b5, c4, c5, d5, ← hk1, ← hk2, s1, s2, s3, lA, lB]
    refine goE_of (b := leanV x) rfl rfl eq ?_
    simp
    exact onC.keep
  | false =>
  have n2 : ¬ x.kind = 2 := by simpa using hk2.symm
  by_cases h358 : x.kind = 3 ∨ x.kind = 5 ∨ x.kind = 8
  · obtain ⟨HC, hHC⟩ : ∃ HC, HC = HB.put (H.next + 1) (evC ⟨x.kind, 0, x.age, x.at', 0, 0⟩) := ⟨_, rfl⟩
    obtain ⟨HD, hHD⟩ : ∃ HD, HD = HB.put (H.next + 1) (evC ⟨x.kind, 0, x.age, x.at', x.value, 0⟩) := ⟨_, rfl⟩
    have s1 := stp HB HC _ _ 3 (iv x.at') same0.symm rfl (by simp) hHC
    have s2 := stp HC HD _ _ 4 (iv x.value) hHC rfl (by simp) hHD
    have c4 : HC.load ⟨H.next, 4, none⟩ = some (iv x.value) := ldA HC _ 4 hHC
    obtain ⟨lA, lB, eq, onC⟩ := done HD _ hHD (by unfold leanY; rw [if_neg n1, if_neg n2, if_pos h358])
    cases k3 with
    | true =>
      simp [L41, hHA2, st, nA, a0, a2, b0, b3, b4, c4, ← hk1, ← hk2, ← hk3, s1, s2, lA, lB]
      refine goE_of (b := leanV x) rfl rfl eq ?_
      simp
      exact onC.keep
    | false =>
      cases k5 with
      | true =>
        simp [L41, hHA2, st, nA, a0, a2, b0, b3, b4, c4, ← hk1, ← hk2, ← hk3, ← hk5, s1, s2, lA, lB]
        refine goE_of (b := leanV x) rfl rfl eq ?_
        simp
        exact onC.keep
      | false =>
        have n3 : ¬ x.kind = 3 := by simpa using hk3.symm
        have n5 : ¬ x.kind = 5 := by simpa using hk5.symm
        have e8 : (x.kind == 8) = true := by simp; omega
        simp [L41, hHA2, st, nA, a0, a2, b0, b3, b4, c4, ← hk1, ← hk2, ← hk3, ← hk5, e8, s1, s2, lA, lB]
        refine goE_of (b := leanV x) rfl rfl eq ?_
        simp
        exact onC.keep
  · have e3 : (x.kind == 3) = false := by simp; omega
    have e5 : (x.kind == 5) = false := by simp; omega
    have e8 : (x.kind == 8) = false := by simp; omega
    cases k4 with
    | true =>
      have h4 : x.kind = 4 := by simpa using hk4.symm
      obtain ⟨HC, hHC⟩ : ∃ HC, HC = HB.put (H.next + 1) (evC ⟨x.kind, 0, x.age, 0, x.value, 0⟩) := ⟨_, rfl⟩
      have s1 := stp HB HC _ _ 4 (iv x.value) same0.symm rfl (by simp) hHC
      obtain ⟨lA, lB, eq, onC⟩ := done HC _ hHC (by unfold leanY; rw [if_neg n1, if_neg n2, if_neg h358, if_pos h4])
      simp [L41, hHA2, st, nA, a0, a2, b0, b4, ← hk1, ← hk2, e3, e5, e8, ← hk4, s1, lA, lB]
      refine goE_of (b := leanV x) rfl rfl eq ?_
      simp
      exact onC.keep
    | false =>
      have n4 : ¬ x.kind = 4 := by simpa using hk4.symm
      obtain ⟨lA, lB, eq, onC⟩ := done HB ⟨x.kind, 0, x.age, 0, 0, 0⟩ same0.symm (by unfold leanY; rw [if_neg n1, if_neg n2, if_neg h358, if_neg n4])
      simp [L41, hHA2, st, nA, a0, a2, b0, b4, ← hk1, ← hk2, e3, e5, e8, ← hk4, lA, lB]
      refine goE_of (b := leanV x) rfl rfl eq ?_
      simp
      exact onC.keep
end Go.Proofs.Ytjkfghekdcalhaa
namespace Go.Proofs.Ytjkfghekdcalhaa
open Go.Ot Go.RowKit
open R14 (Twos ci joinV addN ontoN)
set_option linter.unusedSimpArgs false
set_option linter.unusedVariables false
/-- One more behind a row: the old block is gone, the new one is the last. -/
theorem own_push {H : Heap} (hw : H.WF) {ety sz n : Nat} (bytes : Nat) {cells e : List Value} {y : Value} (h : Own H ety sz n cells y) (he : e.length = sz) (h0 : 0 < sz) (hb : (n + 1) * bytes ≤ 140737488355328) :
    ∃ HC, sAppend (H.new ety sz e) ety sz bytes y (.slice (some ⟨H.next, 0, none⟩) 1 0) = some (.slice (some ⟨H.next + 1, 0, none⟩) (n + 1) 0, HC) ∧ Own HC ety sz (n + 1) (cells ++ e) (.slice (some ⟨H.next + 1, 0, none⟩) (n + 1) 0) ∧ HC.WF ∧ HC.base = H.base ∧ HC.next = H.next + 2 ∧ (∀ b, b < H.next + 1 → blkOf y ≠ some b → HC.blk b = (H.new ety sz e).blk b) := by
  have hnB := hw.next_ge
  have o : On H (H.new ety sz e) := (On.refl hw).new _ _ _
  have own2 := Own.on hw h o
  have hs := src_own (H := H.new ety sz e) (ety := ety) (y := H.next) (sz := sz) (e := e) (by simpa using hnB) (by simp) he h0 0
  have ap := append_any own2 hs (by decide) hb
  refine ⟨_, ap, ?_, WF_new (WF_drop o.wf _) _ _ _, by simp, by simp, fun b h1 h2 => ?_⟩
  · refine Own.mk (by rw [List.length_append, own2.1, he, Nat.add_mul, Nat.one_mul]) ?_ (by simp)
    simpa using o.wf.next_ge
  · have h3 : b ≠ H.next + 1 := by omega
    rw [blk_new, if_neg (by simpa using h3), blk_drop, if_neg h2]
def EvQ (H0 : Heap) (p : Nat) (J : Jb) (n : Int) (wh : Bool) (S : Option BS) (o : Out) (H' : Heap) : Prop :=
  On H0 H' ∧ ((S = none ∧ o = .ret (.bool false)) ∨ ∃ S' ow pt xm xo xr, S = some S' ∧ o = .ret (.bool true) ∧ BK H0 H' p ow J n wh S' pt xm xo xr)
/-- What stands when an event is looked at. -/
structure EA (H0 HA : Heap) (p : Nat) (ow : Nat → Nat) (J : Jb) (n : Int) (wh : Bool) (S : BS) (pt : List Value) (xm xo xr : Value) (vx : Nat) (x : Ev) : Prop where
  bk : BK H0 HA p ow J n wh S pt xm xo xr
  v : Vr HA vx 58 6 (evC x)
  lx : ow vx = 7777
/-- To whom what is made now belongs. -/
def ow2 (ow : Nat → Nat) (b0 l : Nat) : Nat → Nat := fun b => if b = b0 then l else ow b
/-- One more is told of an attempt: what was read. -/
theorem push_r {H0 HA : Heap} {p : Nat} {ow : Nat → Nat} {J : Jb} {n : Int} {wh : Bool} {S : BS} {pt : List Value} {xm xo xr : Value} {vx : Nat} {x : Ev} (A : EA H0 HA p ow J n wh S pt xm xo xr vx x) {i q : Nat} (hi : i < 200) {t : Tr} {yr yw yo yi : Value}
    (hq : pt[i]? = some (ptr q)) (T : TrH HA ow i q t yr yw yo yi) (e : Int × Int) (hl : t.reads.length ≤ 100000) :
    ∃ HC HD, sAppend (HA.new 111 2 [iv e.1, iv e.2]) 111 2 16 yr (.slice (some ⟨HA.next, 0, none⟩) 1 0) = some (.slice (some ⟨HA.next + 1, 0, none⟩) (t.reads.length + 1) 0, HC) ∧ HC.store ⟨q, 0, none⟩ (.slice (some ⟨HA.next + 1, 0, none⟩) (t.reads.length + 1) 0) = some HD ∧
      HA.load ⟨q, 0, none⟩ = some yr ∧ (HA.new 111 2 [iv e.1, iv e.2]).load ⟨q, 0, none⟩ = some yr ∧
      EA H0 HD p (ow2 ow (HA.next + 1) (5 * i + 1)) J n wh { S with tries := S.tries.set i (some { t with reads := t.reads ++ [e] }) } pt xm xo xr vx x := by
  have hw := A.bk.on.wf
  have bq := hw.lt T.vq.bq
  have bv := hw.lt A.v.bq
  have lq := T.lq
  have lx := A.lx
  obtain ⟨HC, ap, own, wf, base, next, keep⟩ := own_push hw 16 T.r (e := [iv e.1, iv e.2]) rfl (by decide) (by omega)
  have ny : ∀ b, (ow b ≠ 5 * i + 1) → blkOf yr ≠ some b := fun b h1 h2 => h1 (T.lr b h2)
  have kp : ∀ b, b < HA.next → ow b ≠ 5 * i + 1 → HC.blk b = HA.blk b := fun b h1 h2 => by rw [keep b (by omega) (ny b h2)]; simp [show b ≠ HA.next by omega]
  have vq : Vr HC q 109 4 [yr, yw, yo, yi] := T.vq.keep base (kp q bq (by omega))
  have sq := vq.store 0 (.slice (some ⟨HA.next + 1, 0, none⟩) (t.reads.length + 1) 0) (by simp)
  have w3 : (HC.put q ([yr, yw, yo, yi].set 0 (.slice (some ⟨HA.next + 1, 0, none⟩) (t.reads.length + 1) 0))).WF := WF_put wf _ _
  have kp3 : ∀ b, b < HA.next → ow b ≠ 5 * i + 1 → b ≠ q → (HC.put q ([yr, yw, yo, yi].set 0 (.slice (some ⟨HA.next + 1, 0, none⟩) (t.reads.length + 1) 0))).blk b = HA.blk b := fun b h1 h2 h3 => by rw [← kp b h1 h2]; simp [h3]
  have ow' : ∀ b, b < HA.next → ow2 ow (HA.next + 1) (5 * i + 1) b = ow b := fun b hb => by unfold ow2; rw [if_neg (by omega)]
  have lt := fun (y : Value) (ety sz n : Nat) (cs : List Value) (h : Own HA ety sz n cs y) b (hb : blkOf y = some b) => h.lt hw hb
  refine ⟨HC, _, ap, sq, T.vq.load 0, ?_, ⟨A.bk.tset hi w3 base (by simp; omega) (fun b h1 h2 => kp3 b h1 (by omega) (fun h3 => by subst h3; omega)) ow' hq ⟨vq.put _, ?_, ?_, ?_, ?_, ?_, ?_, ?_, ?_, ?_⟩, A.v.keep base (kp3 vx bv (by omega) (fun h3 => by subst h3; omega)), by rw [ow' vx bv]; exact lx⟩⟩
  · exact (T.vq.on hw ((On.refl hw).new _ _ _)).load 0
  · show Own _ _ _ (t.reads ++ [e]).length (c2 (t.reads ++ [e])) _
    rw [List.length_append, List.length_singleton, show c2 (t.reads ++ [e]) = c2 t.reads ++ [iv e.1, iv e.2] from c2_snoc _ _]
    exact own.keep (by simp) (fun b hb => by simp at hb; simp [show b ≠ q by omega])
  · exact T.w.keep (B_eq base) (fun b hb => kp3 b (T.w.lt hw hb) (by have := T.lw b hb; omega) (fun h3 => by subst h3; have := T.lw b hb; omega))
  · exact T.o.keep (B_eq base) (fun b hb => kp3 b (T.o.lt hw hb) (by have := T.lo b hb; omega) (fun h3 => by subst h3; have := T.lo b hb; omega))
  · exact T.n.keep (B_eq base) (fun b hb => kp3 b (T.n.lt hw hb) (by have := T.ln b hb; omega) (fun h3 => by subst h3; have := T.ln b hb; omega))
  · rw [ow' q bq]; exact lq
  · intro b hb
    simp at hb
    unfold ow2; rw [if_pos (by omega)]
  · exact fun b hb => by rw [ow' b (T.w.lt hw hb)]; exact T.lw b hb
  · exact fun b hb => by rw [ow' b (T.o.lt hw hb)]; exact T.lo b hb
  · exact fun b hb => by rw [ow' b (T.n.lt hw hb)]; exact T.ln b hb
/-- One more is told of an attempt: what was written. -/
theorem push_w {H0 HA : Heap} {p : Nat} {ow : Nat → Nat} {J : Jb} {n : Int} {wh : Bool} {S : BS} {pt : List Value} {xm xo xr : Value} {vx : Nat} {x : Ev} (A : EA H0 HA p ow J n wh S pt xm xo xr vx x) {i q : Nat} (hi : i < 200) {t : Tr} {yr yw yo yi : Value}
    (hq : pt[i]? = some (ptr q)) (T : TrH HA ow i q t yr yw yo yi) (e : Int × Int) (hl : t.writes.length ≤ 100000) :
    ∃ HC HD, sAppend (HA.new 111 2 [iv e.1, iv e.2]) 111 2 16 yw (.slice (some ⟨HA.next, 0, none⟩) 1 0) = some (.slice (some ⟨HA.next + 1, 0, none⟩) (t.writes.length + 1) 0, HC) ∧ HC.store ⟨q, 1, none⟩ (.slice (some ⟨HA.next + 1, 0, none⟩) (t.writes.length + 1) 0) = some HD ∧
      HA.load ⟨q, 1, none⟩ = some yw ∧ (HA.new 111 2 [iv e.1, iv e.2]).load ⟨q, 1, none⟩ = some yw ∧
      EA H0 HD p (ow2 ow (HA.next + 1) (5 * i + 2)) J n wh { S with tries := S.tries.set i (some { t with writes := t.writes ++ [e] }) } pt xm xo xr vx x := by
  have hw := A.bk.on.wf
  have bq := hw.lt T.vq.bq
  have bv := hw.lt A.v.bq
  have lq := T.lq
  have lx := A.lx
  obtain ⟨HC, ap, own, wf, base, next, keep⟩ := own_push hw 16 T.w (e := [iv e.1, iv e.2]) rfl (by decide) (by omega)
  have ny : ∀ b, (ow b ≠ 5 * i + 2) → blkOf yw ≠ some b := fun b h1 h2 => h1 (T.lw b h2)
  have kp : ∀ b, b < HA.next → ow b ≠ 5 * i + 2 → HC.blk b = HA.blk b := fun b h1 h2 => by rw [keep b (by omega) (ny b h2)]; simp [show b ≠ HA.next by omega]
  have vq : Vr HC q 109 4 [yr, yw, yo, yi] := T.vq.keep base (kp q bq (by omega))
  have sq := vq.store 1 (.slice (some ⟨HA.next + 1, 0, none⟩) (t.writes.length + 1) 0) (by simp)
  have w3 : (HC.put q ([yr, yw, yo, yi].set 1 (.slice (some ⟨HA.next + 1, 0, none⟩) (t.writes.length + 1) 0))).WF := WF_put wf _ _
  have kp3 : ∀ b, b < HA.next → ow b ≠ 5 * i + 2 → b ≠ q → (HC.put q ([yr, yw, yo, yi].set 1 (.slice (some ⟨HA.next + 1, 0, none⟩) (t.writes.length + 1) 0))).blk b = HA.blk b := fun b h1 h2 h3 => by rw [← kp b h1 h2]; simp [h3]
  have ow' : ∀ b, b < HA.next → ow2 ow (HA.next + 1) (5 * i + 2) b = ow b := fun b hb => by unfold ow2; rw [if_neg (by omega)]
  have lt := fun (y : Value) (ety sz n : Nat) (cs : List Value) (h : Own HA ety sz n cs y) b (hb : blkOf y = some b) => h.lt hw hb
  refine ⟨HC, _, ap, sq, T.vq.load 1, ?_, ⟨A.bk.tset hi w3 base (by simp; omega) (fun b h1 h2 => kp3 b h1 (by omega) (fun h3 => by subst h3; omega)) ow' hq ⟨vq.put _, ?_, ?_, ?_, ?_, ?_, ?_, ?_, ?_, ?_⟩, A.v.keep base (kp3 vx bv (by omega) (fun h3 => by subst h3; omega)), by rw [ow' vx bv]; exact lx⟩⟩
  · exact (T.vq.on hw ((On.refl hw).new _ _ _)).load 1
  · exact T.r.keep (B_eq base) (fun b hb => kp3 b (T.r.lt hw hb) (by have := T.lr b hb; omega) (fun h3 => by subst h3; have := T.lr b hb; omega))
  · show Own _ _ _ (t.writes ++ [e]).length (c2 (t.writes ++ [e])) _
    rw [List.length_append, List.length_singleton, show c2 (t.writes ++ [e]) = c2 t.writes ++ [iv e.1, iv e.2] from c2_snoc _ _]
    exact own.keep (by simp) (fun b hb => by simp at hb; simp [show b ≠ q by omega])
  · exact T.o.keep (B_eq base) (fun b hb => kp3 b (T.o.lt hw hb) (by have := T.lo b hb; omega) (fun h3 => by subst h3; have := T.lo b hb; omega))
  · exact T.n.keep (B_eq base) (fun b hb => kp3 b (T.n.lt hw hb) (by have := T.ln b hb; omega) (fun h3 => by subst h3; have := T.ln b hb; omega))
  · rw [ow' q bq]; exact lq
  · exact fun b hb => by rw [ow' b (T.r.lt hw hb)]; exact T.lr b hb
  · intro b hb
    simp at hb
    unfold ow2; rw [if_pos (by omega)]
  · exact fun b hb => by rw [ow' b (T.o.lt hw hb)]; exact T.lo b hb
  · exact fun b hb => by rw [ow' b (T.n.lt hw hb)]; exact T.ln b hb
/-- One more is told of an attempt: what was put out. -/
theorem push_o {H0 HA : Heap} {p : Nat} {ow : Nat → Nat} {J : Jb} {n : Int} {wh : Bool} {S : BS} {pt : List Value} {xm xo xr : Value} {vx : Nat} {x : Ev} (A : EA H0 HA p ow J n wh S pt xm xo xr vx x) {i q : Nat} (hi : i < 200) {t : Tr} {yr yw yo yi : Value}
    (hq : pt[i]? = some (ptr q)) (T : TrH HA ow i q t yr yw yo yi) (e : Int) (hl : t.outs.length ≤ 100000) :
    ∃ HC HD, sAppend (HA.new 2 1 [iv e]) 2 1 8 yo (.slice (some ⟨HA.next, 0, none⟩) 1 0) = some (.slice (some ⟨HA.next + 1, 0, none⟩) (t.outs.length + 1) 0, HC) ∧ HC.store ⟨q, 2, none⟩ (.slice (some ⟨HA.next + 1, 0, none⟩) (t.outs.length + 1) 0) = some HD ∧
      HA.load ⟨q, 2, none⟩ = some yo ∧ (HA.new 2 1 [iv e]).load ⟨q, 2, none⟩ = some yo ∧
      EA H0 HD p (ow2 ow (HA.next + 1) (5 * i + 3)) J n wh { S with tries := S.tries.set i (some { t with outs := t.outs ++ [e] }) } pt xm xo xr vx x := by
  have hw := A.bk.on.wf
  have bq := hw.lt T.vq.bq
  have bv := hw.lt A.v.bq
  have lq := T.lq
  have lx := A.lx
  obtain ⟨HC, ap, own, wf, base, next, keep⟩ := own_push hw 8 T.o (e := [iv e]) rfl (by decide) (by omega)
  have ny : ∀ b, (ow b ≠ 5 * i + 3) → blkOf yo ≠ some b := fun b h1 h2 => h1 (T.lo b h2)
  have kp : ∀ b, b < HA.next → ow b ≠ 5 * i + 3 → HC.blk b = HA.blk b := fun b h1 h2 => by rw [keep b (by omega) (ny b h2)]; simp [show b ≠ HA.next by omega]
  have vq : Vr HC q 109 4 [yr, yw, yo, yi] := T.vq.keep base (kp q bq (by omega))
  have sq := vq.store 2 (.slice (some ⟨HA.next + 1, 0, none⟩) (t.outs.length + 1) 0) (by simp)
  have w3 : (HC.put q ([yr, yw, yo, yi].set 2 (.slice (some ⟨HA.next + 1, 0, none⟩) (t.outs.length + 1) 0))).WF := WF_put wf _ _
  have kp3 : ∀ b, b < HA.next → ow b ≠ 5 * i + 3 → b ≠ q → (HC.put q ([yr, yw, yo, yi].set 2 (.slice (some ⟨HA.next + 1, 0, none⟩) (t.outs.length + 1) 0))).blk b = HA.blk b := fun b h1 h2 h3 => by rw [← kp b h1 h2]; simp [h3]
  have ow' : ∀ b, b < HA.next → ow2 ow (HA.next + 1) (5 * i + 3) b = ow b := fun b hb => by unfold ow2; rw [if_neg (by omega)]
  have lt := fun (y : Value) (ety sz n : Nat) (cs : List Value) (h : Own HA ety sz n cs y) b (hb : blkOf y = some b) => h.lt hw hb
  refine ⟨HC, _, ap, sq, T.vq.load 2, ?_, ⟨A.bk.tset hi w3 base (by simp; omega) (fun b h1 h2 => kp3 b h1 (by omega) (fun h3 => by subst h3; omega)) ow' hq ⟨vq.put _, ?_, ?_, ?_, ?_, ?_, ?_, ?_, ?_, ?_⟩, A.v.keep base (kp3 vx bv (by omega) (fun h3 => by subst h3; omega)), by rw [ow' vx bv]; exact lx⟩⟩
  · exact (T.vq.on hw ((On.refl hw).new _ _ _)).load 2
  · exact T.r.keep (B_eq base) (fun b hb => kp3 b (T.r.lt hw hb) (by have := T.lr b hb; omega) (fun h3 => by subst h3; have := T.lr b hb; omega))
  · exact T.w.keep (B_eq base) (fun b hb => kp3 b (T.w.lt hw hb) (by have := T.lw b hb; omega) (fun h3 => by subst h3; have := T.lw b hb; omega))
  · show Own _ _ _ (t.outs ++ [e]).length (ci (t.outs ++ [e])) _
    rw [List.length_append, List.length_singleton, show ci (t.outs ++ [e]) = ci t.outs ++ [iv e] from R14.ci_append _ _]
    exact own.keep (by simp) (fun b hb => by simp at hb; simp [show b ≠ q by omega])
  · exact T.n.keep (B_eq base) (fun b hb => kp3 b (T.n.lt hw hb) (by have := T.ln b hb; omega) (fun h3 => by subst h3; have := T.ln b hb; omega))
  · rw [ow' q bq]; exact lq
  · exact fun b hb => by rw [ow' b (T.r.lt hw hb)]; exact T.lr b hb
  · exact fun b hb => by rw [ow' b (T.w.lt hw hb)]; exact T.lw b hb
  · intro b hb
    simp at hb
    unfold ow2; rw [if_pos (by omega)]
  · exact fun b hb => by rw [ow' b (T.n.lt hw hb)]; exact T.ln b hb
/-- One more is told of an attempt: what was put in. -/
theorem push_n {H0 HA : Heap} {p : Nat} {ow : Nat → Nat} {J : Jb} {n : Int} {wh : Bool} {S : BS} {pt : List Value} {xm xo xr : Value} {vx : Nat} {x : Ev} (A : EA H0 HA p ow J n wh S pt xm xo xr vx x) {i q : Nat} (hi : i < 200) {t : Tr} {yr yw yo yi : Value}
    (hq : pt[i]? = some (ptr q)) (T : TrH HA ow i q t yr yw yo yi) (e : Int × Int) (hl : t.intos.length ≤ 100000) :
    ∃ HC HD, sAppend (HA.new 97 2 [iv e.1, iv e.2]) 97 2 16 yi (.slice (some ⟨HA.next, 0, none⟩) 1 0) = some (.slice (some ⟨HA.next + 1, 0, none⟩) (t.intos.length + 1) 0, HC) ∧ HC.store ⟨q, 3, none⟩ (.slice (some ⟨HA.next + 1, 0, none⟩) (t.intos.length + 1) 0) = some HD ∧
      HA.load ⟨q, 3, none⟩ = some yi ∧ (HA.new 97 2 [iv e.1, iv e.2]).load ⟨q, 3, none⟩ = some yi ∧
      EA H0 HD p (ow2 ow (HA.next + 1) (5 * i + 4)) J n wh { S with tries := S.tries.set i (some { t with intos := t.intos ++ [e] }) } pt xm xo xr vx x := by
  have hw := A.bk.on.wf
  have bq := hw.lt T.vq.bq
  have bv := hw.lt A.v.bq
  have lq := T.lq
  have lx := A.lx
  obtain ⟨HC, ap, own, wf, base, next, keep⟩ := own_push hw 16 T.n (e := [iv e.1, iv e.2]) rfl (by decide) (by omega)
  have ny : ∀ b, (ow b ≠ 5 * i + 4) → blkOf yi ≠ some b := fun b h1 h2 => h1 (T.ln b h2)
  have kp : ∀ b, b < HA.next → ow b ≠ 5 * i + 4 → HC.blk b = HA.blk b := fun b h1 h2 => by rw [keep b (by omega) (ny b h2)]; simp [show b ≠ HA.next by omega]
  have vq : Vr HC q 109 4 [yr, yw, yo, yi] := T.vq.keep base (kp q bq (by omega))
  have sq := vq.store 3 (.slice (some ⟨HA.next + 1, 0, none⟩) (t.intos.length + 1) 0) (by simp)
  have w3 : (HC.put q ([yr, yw, yo, yi].set 3 (.slice (some ⟨HA.next + 1, 0, none⟩) (t.intos.length + 1) 0))).WF := WF_put wf _ _
  have kp3 : ∀ b, b < HA.next → ow b ≠ 5 * i + 4 → b ≠ q → (HC.put q ([yr, yw, yo, yi].set 3 (.slice (some ⟨HA.next + 1, 0, none⟩) (t.intos.length + 1) 0))).blk b = HA.blk b := fun b h1 h2 h3 => by rw [← kp b h1 h2]; simp [h3]
  have ow' : ∀ b, b < HA.next → ow2 ow (HA.next + 1) (5 * i + 4) b = ow b := fun b hb => by unfold ow2; rw [if_neg (by omega)]
  have lt := fun (y : Value) (ety sz n : Nat) (cs : List Value) (h : Own HA ety sz n cs y) b (hb : blkOf y = some b) => h.lt hw hb
  refine ⟨HC, _, ap, sq, T.vq.load 3, ?_, ⟨A.bk.tset hi w3 base (by simp; omega) (fun b h1 h2 => kp3 b h1 (by omega) (fun h3 => by subst h3; omega)) ow' hq ⟨vq.put _, ?_, ?_, ?_, ?_, ?_, ?_, ?_, ?_, ?_⟩, A.v.keep base (kp3 vx bv (by omega) (fun h3 => by subst h3; omega)), by rw [ow' vx bv]; exact lx⟩⟩
  · exact (T.vq.on hw ((On.refl hw).new _ _ _)).load 3
  · exact T.r.keep (B_eq base) (fun b hb => kp3 b (T.r.lt hw hb) (by have := T.lr b hb; omega) (fun h3 => by subst h3; have := T.lr b hb; omega))
  · exact T.w.keep (B_eq base) (fun b hb => kp3 b (T.w.lt hw hb) (by have := T.lw b hb; omega) (fun h3 => by subst h3; have := T.lw b hb; omega))
  · exact T.o.keep (B_eq base) (fun b hb => kp3 b (T.o.lt hw hb) (by have := T.lo b hb; omega) (fun h3 => by subst h3; have := T.lo b hb; omega))
  · show Own _ _ _ (t.intos ++ [e]).length (c2 (t.intos ++ [e])) _
    rw [List.length_append, List.length_singleton, show c2 (t.intos ++ [e]) = c2 t.intos ++ [iv e.1, iv e.2] from c2_snoc _ _]
    exact own.keep (by simp) (fun b hb => by simp at hb; simp [show b ≠ q by omega])
  · rw [ow' q bq]; exact lq
  · exact fun b hb => by rw [ow' b (T.r.lt hw hb)]; exact T.lr b hb
  · exact fun b hb => by rw [ow' b (T.w.lt hw hb)]; exact T.lw b hb
  · exact fun b hb => by rw [ow' b (T.o.lt hw hb)]; exact T.lo b hb
  · intro b hb
    simp at hb
    unfold ow2; rw [if_pos (by omega)]
end Go.Proofs.Ytjkfghekdcalhaa
namespace Go.Proofs.Ytjkfghekdcalhaa
open Go.Ot Go.RowKit
open R14 (Twos ci joinV addN ontoN)
set_option linter.unusedSimpArgs false
set_option linter.unusedVariables false
theorem bkC_set (J : Jb) (n : Int) (pt : List Value) (xm xo xr : Value) (S : BS) (wh : Bool) {i : Nat} (hi : i < pt.length) (v : Value) : (bkC J n pt xm xo xr S wh).set (12 + i) v = bkC J n (pt.set i v) xm xo xr S wh := by
  unfold bkC
  rw [List.set_append_right _ _ (by simp; omega), show 12 + i - (jobC J).length = i + 1 from by simp; omega, List.set_cons_succ, List.set_append_left _ _ hi]
/-- A task begins. -/
theorem begin_S {H0 HA : Heap} {p : Nat} {ow : Nat → Nat} {J : Jb} {n : Int} {wh : Bool} {S : BS} {pt : List Value} {xm xo xr : Value} {vx : Nat} {x : Ev} (A : EA H0 HA p ow J n wh S pt xm xo xr vx x) {i : Nat} (hi : i < 200) :
    ∃ HD, (HA.new 109 4 [.slice none 0 0, .slice none 0 0, .slice none 0 0, .slice none 0 0]).store ⟨p, 12 + i, none⟩ (.pointer (some ⟨HA.next, 0, none⟩)) = some HD ∧ On H0 HD ∧ Vr HD vx 58 6 (evC x) ∧
      (S.tries[i]? = some none → BK H0 HD p (ow2 ow HA.next (5 * i)) J n wh { S with tries := S.tries.set i (some Tr.none) } (pt.set i (ptr HA.next)) xm xo xr) := by
  have hw := A.bk.on.wf
  have pl := A.bk.pl
  have lp := A.bk.lp
  have bp := hw.lt A.bk.vp.bq
  have bv := hw.lt A.v.bq
  have lx := A.lx
  have h0n := A.bk.on.next
  have o : On HA (HA.new 109 4 [.slice none 0 0, .slice none 0 0, .slice none 0 0, .slice none 0 0]) := (On.refl hw).new _ _ _
  have vp := A.bk.vp.on hw o
  have vq : Vr (HA.new 109 4 [.slice none 0 0, .slice none 0 0, .slice none 0 0, .slice none 0 0]) HA.next 109 4 [.slice none 0 0, .slice none 0 0, .slice none 0 0, .slice none 0 0] := Vr.mk' hw _ _ _
  have st := vp.store (12 + i) (.pointer (some ⟨HA.next, 0, none⟩)) (by simp [pl]; omega)
  rw [bkC_set J n pt xm xo xr S wh (by omega)] at st
  obtain ⟨HB, hHB⟩ : ∃ HB, HB = HA.new 109 4 [.slice none 0 0, .slice none 0 0, .slice none 0 0, .slice none 0 0] := ⟨_, rfl⟩
  rw [← hHB] at st vq vp o
  have nB : HB.next = HA.next + 1 := by rw [hHB]; rfl
  have p0 : H0.next ≤ p := by
    by_cases h : p < H0.next
    · have := A.bk.old p h; omega
    · omega
  have on2 : On H0 (HB.put p (bkC J n (pt.set i (ptr HA.next)) xm xo xr S wh)) := (A.bk.on.trans o).put p0 _
  rw [← hHB]
  refine ⟨_, st, on2, ((A.v.on hw o).beside (fun e => by rw [e] at lx; omega) _), fun hn => ?_⟩
  have ow' : ∀ b, b < HA.next → ow2 ow HA.next (5 * i) b = ow b := fun b hb => by unfold ow2; rw [if_neg (by omega)]
  have kp : ∀ b, b < HA.next → b ≠ p → (HB.put p (bkC J n (pt.set i (ptr HA.next)) xm xo xr S wh)).blk b = HA.blk b := fun b h1 h2 => by simp [h2, o.keep b h1]
  have ow : ∀ {ety sz m : Nat} {cs : List Value} {y : Value} (h : Own HA ety sz m cs y), (∀ b, blkOf y = some b → b ≠ p) → Own (HB.put p (bkC J n (pt.set i (ptr HA.next)) xm xo xr S wh)) ety sz m cs y := fun h h1 => h.keep (by simp [B_eq o.base]) (fun b hb => kp b (h.lt hw hb) (h1 b hb))
  refine ⟨on2, vp.put _, by rw [ow' p bp]; exact lp, fun b hb => by rw [ow' b (by omega)]; exact A.bk.old b hb, ow A.bk.m (fun b hb e => by have := A.bk.lm b hb; rw [e] at this; omega), ow A.bk.o (fun b hb e => by have := A.bk.lo b hb; rw [e] at this; omega),
    ow A.bk.r (fun b hb e => by have := A.bk.lr b hb; rw [e] at this; omega), fun b hx => by rw [ow' b (A.bk.m.lt hw hx)]; exact A.bk.lm b hx, fun b hx => by rw [ow' b (A.bk.o.lt hw hx)]; exact A.bk.lo b hx, fun b hx => by rw [ow' b (A.bk.r.lt hw hx)]; exact A.bk.lr b hx,
    by simp [pl], by simp [A.bk.tl], fun j hj => ?_⟩
  by_cases e : i = j
  · subst e
    refine .inr ⟨Tr.none, HA.next, _, _, _, _, by simp [List.getElem?_set, A.bk.tl, hi], by simp [List.getElem?_set, pl, hi], ⟨vq.beside (by omega) _, Own.nil _ _ _, Own.nil _ _ _, Own.nil _ _ _, Own.nil _ _ _, by unfold ow2; rw [if_pos rfl], ?_, ?_, ?_, ?_⟩⟩
    all_goals exact fun b hb => by cases hb
  · rcases A.bk.tr j hj with ⟨h1, h2⟩ | ⟨t, q2, a, b, c, d, h1, h2, h3⟩
    · exact .inl ⟨by simp [List.getElem?_set, e, h1], by simp [List.getElem?_set, e, h2]⟩
    · exact .inr ⟨t, q2, a, b, c, d, by simp [List.getElem?_set, e, h1], by simp [List.getElem?_set, e, h2], h3.keep hw (by simp [o.base]) (fun b hb h4 h5 => kp b hb (fun e2 => by rw [e2] at h5; omega)) ow'⟩
/-- A task begins anew. -/
theorem abort_S {H0 HA : Heap} {p : Nat} {ow : Nat → Nat} {J : Jb} {n : Int} {wh : Bool} {S : BS} {pt : List Value} {xm xo xr : Value} {vx : Nat} {x : Ev} (A : EA H0 HA p ow J n wh S pt xm xo xr vx x) {i q : Nat} (hi : i < 200) {t : Tr} {yr yw yo yi : Value}
    (hq : pt[i]? = some (ptr q)) (T : TrH HA ow i q t yr yw yo yi) :
    ∃ HD, sStore HA 4 (ptr q) (.agg #[.slice none 0 0, .slice none 0 0, .slice none 0 0, .slice none 0 0]) = some HD ∧ BK H0 HD p ow J n wh { S with tries := S.tries.set i (some Tr.none) } pt xm xo xr := by
  have hw := A.bk.on.wf
  have lq := T.lq
  refine ⟨_, T.vq.storeA (m := 4) (by decide) [.slice none 0 0, .slice none 0 0, .slice none 0 0, .slice none 0 0] rfl rfl, A.bk.tset hi (WF_put hw _ _) (by simp) (by simp) (fun b h1 h2 => ?_) (fun _ _ => rfl) hq ⟨T.vq.put _, Own.nil _ _ _, Own.nil _ _ _, Own.nil _ _ _, Own.nil _ _ _, lq, ?_, ?_, ?_, ?_⟩⟩
  · have : b ≠ q := fun e => by rw [e] at h2; omega
    simp [this]
  all_goals exact fun b hb => by cases hb
end Go.Proofs.Ytjkfghekdcalhaa
namespace Go.Proofs.Ytjkfghekdcalhaa
open Go.Ot Go.RowKit
open R14 (Twos ci joinV addN ontoN HP add_T may)
set_option linter.unusedSimpArgs false
set_option linter.unusedVariables false
def InvW (HB : Heap) (r : Nat) (m : List Int) (yw : Value) (l : List (Int × Int)) (t0 : Tm) (k : Nat) (t : Tm) (H1 : Heap) : Prop :=
  ∃ i : Nat, i + k = l.length ∧ t 0 = t0 0 ∧ t 2 = t0 2 ∧ t 4 = t0 4 ∧ t 7 = .slice (some ⟨r, 0, none⟩) m.length 0 ∧ t 37 = yw ∧ t 38 = iv l.length ∧ t 39 = iv i ∧ Fr HB H1 r ∧ Vr H1 r 2 1 (ci (setM m (l.take i)))
theorem write_loop {HB : Heap} (wB : HB.WF) {r : Nat} {m : List Int} {yw : Value} {l : List (Int × Int)} (vr : Vr HB r 2 1 (ci m)) (hy : Own HB 111 2 l.length (c2 l) yw) (hyr : ∀ b, blkOf yw = some b → b ≠ r) (hb : ∀ c ∈ l, 0 ≤ c.1 ∧ c.1 < (m.length : Int)) (hl : l.length ≤ 100000)
    {Q : Post} {t : Tm} (t7 : t 7 = .slice (some ⟨r, 0, none⟩) m.length 0) (t37 : t 37 = yw) (t38 : t 38 = iv l.length) (t39 : t 39 = iv 0)
    (hE : ∀ (t' : Tm) (H1 : Heap), t' 0 = t 0 → t' 2 = t 2 → t' 4 = t 4 → t' 7 = t 7 → Fr HB H1 r → Vr H1 r 2 1 (ci (setM m l)) → Q (.exit 0) t' (rdy H1)) : wpA Try.prog (.loop L43_1) Q t (rdy HB) := by
  refine loop_at (InvW HB r m yw l t) l.length ?_ ?_
  · exact ⟨0, by omega, rfl, rfl, rfl, t7, t37, t38, t39, Fr.refl wB r, by simpa [setM] using vr⟩
  rintro k t1 H1 ⟨i, hik, u0, u2, u4, u7, u37, u38, u39, fr, v1⟩
  cases k with
  | zero =>
    have ei : i = l.length := by omega
    rw [ei, List.take_length] at v1
    simp [L43_1, u38, u39, ei]
    exact hE _ _ (by simp [u0]) (by simp [u2]) (by simp [u4]) (by simp [u7, t7]) fr v1
  | succ k =>
    have hi : i < l.length := by omega
    have hiI : (i : Int) < (l.length : Int) := by omega
    have e4 : IntKind.i64.wrap ((i : Int) + 1) = ((i + 1 : Nat) : Int) := by rw [w64 _ (by omega)]; omega
    obtain ⟨e, he⟩ : ∃ e, e = l[i] := ⟨_, rfl⟩
    obtain ⟨h0, h1⟩ := hb e (by rw [he]; exact List.getElem_mem hi)
    have hi2 : i < (rows2 l).length := by simpa [rows2] using hi
    have hy1 : Own H1 111 2 l.length (c2 l) yw := Own.fr wB hy (fun h => hyr r h rfl) fr
    obtain ⟨b, off, c, hyb, _, ldx, _⟩ := (own_rows2 hy1).at hi2
    have er : (rows2 l)[i] = [iv e.1, iv e.2] := by simp [rows2, he]
    have ln2 : (rows2 l).length = l.length := by simp [rows2]
    rw [er] at ldx
    rw [ln2] at hyb
    have u37' := u37.trans hyb
    obtain ⟨j, hj⟩ : ∃ j, j = e.1.toNat := ⟨_, rfl⟩
    have ej : e.1 = (j : Int) := by omega
    have hjm : j < m.length := by omega
    have hjmI : (j : Int) < (m.length : Int) := by omega
    have st := new_storeA fr.wf 111 2 [iv 0, iv 0] [iv e.1, iv e.2] rfl rfl (by decide)
    have VE : Vr (H1.new 111 2 [iv e.1, iv e.2]) H1.next 111 2 [iv e.1, iv e.2] := Vr.mk' fr.wf _ _ _
    have fr2 : Fr HB (H1.new 111 2 [iv e.1, iv e.2]) r := fr.new _ _ _
    have v2 := v1.new fr.wf 111 2 [iv e.1, iv e.2]
    obtain ⟨H2, hH2⟩ : ∃ H2, H2 = H1.new 111 2 [iv e.1, iv e.2] := ⟨_, rfl⟩
    obtain ⟨s, hs⟩ : ∃ s, s = H1.next := ⟨_, rfl⟩
    rw [← hH2, ← hs] at st VE
    rw [← hH2] at fr2 v2
    have f0 : H2.load ⟨s, 0, none⟩ = some (iv j) := by rw [← ej]; exact VE.load 0
    have f1 : H2.load ⟨s, 1, none⟩ = some (iv e.2) := VE.load 1
    have lset : (ci (setM m (l.take i))).set j (iv e.2) = ci (setM m (l.take (i + 1))) := by
      rw [List.take_succ_eq_append_getElem hi, setM_snoc, ← he, ← hj]; simp [ci, List.map_set]
    have sj := v2.store j (iv e.2) (by rw [R14.ci_len, setM_len]; exact hjm)
    rw [lset] at sj
    simp [L43_1, u38, u39, hi, hiI, u37', ldx, st, ← hs, f0, f1, u7, hjm, hjmI, sj, e4]
    exact ⟨k, by omega, i + 1, by omega, by simp [u0], by simp [u2], by simp [u4], by simp [u7], by simp [u37, ← hyb], by simp [u38], by simp, fr2.put _, v2.put _⟩
def InvI (HB : Heap) (lo hi ph : Nat) (ops now : List Int) (xo xn yi : Value) (l : List (Int × Int)) (t0 : Tm) (k : Nat) (t : Tm) (H1 : Heap) : Prop :=
  ∃ (i : Nat) (many : Int), i + k = l.length ∧ t 0 = t0 0 ∧ t 2 = t0 2 ∧ t 4 = t0 4 ∧ t 10 = ptr ph ∧ t 94 = yi ∧ t 95 = iv l.length ∧ t 96 = iv i ∧ H1.WF ∧ H1.base = HB.base ∧ HB.next ≤ H1.next ∧ (∀ b, b < HB.next → (b < lo ∨ hi ≤ b) → H1.blk b = HB.blk b) ∧ 0 ≤ many ∧ many ≤ i ∧
    HP H1 lo hi ph ops ((l.take i).foldl (fun now c => addN ops now c.1 c.2) now) many xo xn
theorem addN_len (ops now : List Int) (c n : Int) : (addN ops now c n).length = now.length := by unfold addN; split <;> simp
theorem adds_len (ops : List Int) : ∀ (l : List (Int × Int)) (now : List Int), (l.foldl (fun now c => addN ops now c.1 c.2) now).length = now.length
  | [], now => rfl
  | c :: l, now => by rw [List.foldl_cons, adds_len ops l, addN_len]
theorem add_loop {HB : Heap} (wB : HB.WF) {lo hi ph : Nat} {ops now : List Int} {xo xn : Value} (hp : HP HB lo hi ph ops now 0 xo xn) (hlen : now.length = ops.length) (hol : ops.length ≤ 1000) {yi : Value} {l : List (Int × Int)} (hy : Own HB 97 2 l.length (c2 l) yi)
    (hyi : ∀ b, blkOf yi = some b → b < lo ∨ hi ≤ b) (hhi : hi ≤ HB.next) (hl : l.length ≤ 100000) {Q : Post} {t : Tm} (t10 : t 10 = ptr ph) (t94 : t 94 = yi) (t95 : t 95 = iv l.length) (t96 : t 96 = iv 0)
    (hE : ∀ (t' : Tm) (H1 : Heap) (many : Int), t' 0 = t 0 → t' 2 = t 2 → t' 4 = t 4 → t' 10 = t 10 → H1.WF → H1.base = HB.base → HB.next ≤ H1.next → (∀ b, b < HB.next → (b < lo ∨ hi ≤ b) → H1.blk b = HB.blk b) →
      HP H1 lo hi ph ops (l.foldl (fun now c => addN ops now c.1 c.2) now) many xo xn → Q (.exit 2) t' (rdy H1)) : wpA Try.prog (.loop L43_2) Q t (rdy HB) := by
  refine loop_at (InvI HB lo hi ph ops now xo xn yi l t) l.length ?_ ?_
  · exact ⟨0, 0, by omega, rfl, rfl, rfl, t10, t94, t95, t96, wB, rfl, Nat.le_refl _, fun _ _ _ => rfl, by omega, by simp, by simpa using hp⟩
  rintro k t1 H1 ⟨i, many, hik, u0, u2, u4, u10, u94, u95, u96, w1, b1, n1, k1, m0, mi, h1⟩
  cases k with
  | zero =>
    have ei : i = l.length := by omega
    rw [ei, List.take_length] at h1
    simp [L43_2, u95, u96, ei]
    exact hE _ _ many (by simp [u0]) (by simp [u2]) (by simp [u4]) (by simp [u10, t10]) w1 b1 n1 k1 h1
  | succ k =>
    have hi' : i < l.length := by omega
    have hiI : (i : Int) < (l.length : Int) := by omega
    have e4 : IntKind.i64.wrap ((i : Int) + 1) = ((i + 1 : Nat) : Int) := by rw [w64 _ (by omega)]; omega
    obtain ⟨e, he⟩ : ∃ e, e = l[i] := ⟨_, rfl⟩
    have hi2 : i < (rows2 l).length := by simpa [rows2] using hi'
    have hy1 : Own H1 97 2 l.length (c2 l) yi := hy.keep (B_eq b1) (fun b hb => k1 b (hy.lt wB hb) (hyi b hb))
    obtain ⟨b, off, c, hyb, _, ldx, _⟩ := (own_rows2 hy1).at hi2
    have er : (rows2 l)[i] = [iv e.1, iv e.2] := by simp [rows2, he]
    have ln2 : (rows2 l).length = l.length := by simp [rows2]
    rw [er] at ldx
    rw [ln2] at hyb
    have u94' := u94.trans hyb
    have st := new_storeA w1 97 2 [iv 0, iv 0] [iv e.1, iv e.2] rfl rfl (by decide)
    have VE : Vr (H1.new 97 2 [iv e.1, iv e.2]) H1.next 97 2 [iv e.1, iv e.2] := Vr.mk' w1 _ _ _
    have on2 : On H1 (H1.new 97 2 [iv e.1, iv e.2]) := (On.refl w1).new _ _ _
    obtain ⟨H2, hH2⟩ : ∃ H2, H2 = H1.new 97 2 [iv e.1, iv e.2] := ⟨_, rfl⟩
    obtain ⟨s, hs⟩ : ∃ s, s = H1.next := ⟨_, rfl⟩
    rw [← hH2, ← hs] at st VE
    rw [← hH2] at on2
    have f0 : H2.load ⟨s, 0, none⟩ = some (iv e.1) := VE.load 0
    have f1 : H2.load ⟨s, 1, none⟩ = some (iv e.2) := VE.load 1
    have h2 := h1.frame on2.base (fun b hb1 hb2 => on2.keep b (by omega))
    obtain ⟨v, H3, aT, rfl, w3, b3, n3, k3, h3⟩ := add_T on2.wf h2 (by rw [adds_len]; exact hlen) e.1 e.2 ⟨⟨by omega, by omega⟩, by omega⟩ hol
    have tk : l.take (i + 1) = l.take i ++ [e] := by rw [List.take_succ_eq_append_getElem hi', he]
    have b31 : H3.base = HB.base := by rw [b3, on2.base, b1]
    have n31 : HB.next ≤ H3.next := by have := on2.next; omega
    have k31 : ∀ b, b < HB.next → (b < lo ∨ hi ≤ b) → H3.blk b = HB.blk b := fun b hb1 hb2 => by rw [k3 b hb2, on2.keep b (by omega), k1 b hb1 hb2]
    simp [L43_2, u95, u96, hi', hiI, u94', ldx, st, ← hs, f0, f1, u10]
    refine goT_of aT ?_
    simp [u96, e4]
    refine ⟨k, by omega, i + 1, _, by omega, by simp [u0], by simp [u2], by simp [u4], by simp [u10], by simp [u94, ← hyb], by simp [u95], by simp, w3, b31, n31, k31, ?_, ?_, by rw [tk, List.foldl_append]; exact h3⟩
    · split <;> omega
    · split <;> omega
theorem Vr.storeMid {G : Heap} {q ty n : Nat} {pre mid post new : List Value} (h : Vr G q ty n (pre ++ (mid ++ post))) (hl : new.length = mid.length) (h0 : 0 < new.length) : sStore G new.length (.pointer (some ⟨q, pre.length, none⟩)) (.agg new.toArray) = some (G.put q (pre ++ (new ++ post))) := by
  have hz := h.hn
  rw [sStore_agg _ _ _ _ rfl h0, storeN_at h.hq h.bq (by simp; omega)]
  congr 2
  simp only [Nat.add_zero]
  rw [List.take_append_of_le_length (Nat.le_refl _), List.take_length, List.append_assoc]
  congr 2
  rw [← List.append_assoc, show pre.length + new.length = (pre ++ mid).length by simp [hl], List.drop_left]
end Go.Proofs.Ytjkfghekdcalhaa
