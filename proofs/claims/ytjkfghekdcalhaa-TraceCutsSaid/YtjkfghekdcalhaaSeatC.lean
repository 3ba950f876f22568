/-
  Chapter 27: what was told so far: plainly, and where it stands.
-/
import Derived.Test.YtjkfghekdcalhaaSeatBF
import Derived.Test.YtjkfghekdcalhaaSeatBG
namespace Go.Proofs.Ytjkfghekdcalhaa
open Go.Ot Go.RowKit
open R14 (Twos ci joinV addN ontoN)
set_option linter.unusedSimpArgs false
set_option linter.unusedVariables false
structure Ev where
  kind : Int
  who : Int
  age : Int
  at' : Int
  value : Int
  from' : Int
abbrev evC (x : Ev) : List Value := [iv x.kind, iv x.who, iv x.age, iv x.at', iv x.value, iv x.from']
def rows2 (l : List (Int × Int)) : List (List Value) := l.map fun c => [iv c.1, iv c.2]
def c2 (l : List (Int × Int)) : List Value := (rows2 l).flatten
theorem c2_snoc (l : List (Int × Int)) (c : Int × Int) : c2 (l ++ [c]) = c2 l ++ [iv c.1, iv c.2] := by simp [c2, rows2]
theorem c2_len (l : List (Int × Int)) : (c2 l).length = l.length * 2 := by
  induction l with
  | nil => rfl
  | cons a l ih => simp only [c2, rows2, List.map_cons, List.flatten_cons, List.length_append, List.length_cons, List.length_nil] at ih ⊢; omega
theorem own_rows2 {H : Heap} {ety : Nat} {l : List (Int × Int)} {x : Value} (h : Own H ety 2 l.length (c2 l) x) : Rws H 2 x (rows2 l) := by
  have h' : Own H ety 2 (rows2 l).length (rows2 l).flatten x := by rw [rows2, List.length_map]; exact h
  exact h'.rws (fun r hr => by simp [rows2] at hr; obtain ⟨a, b, _, rfl⟩ := hr; rfl)
/-- An attempt, as told. -/
structure Tr where
  reads : List (Int × Int)
  writes : List (Int × Int)
  outs : List Int
  intos : List (Int × Int)
  deriving DecidableEq
def Tr.none : Tr := ⟨[], [], [], []⟩
/-- All that was told. -/
structure BS where
  mem : List Int
  outs : List Int
  reds : List Int
  fa : Int
  fo : Int
  fv : Int
  count : Nat
  tries : List (Option Tr)
def leanV (x : Ev) : Bool :=
  if x.kind = 1 then decide (x.at' = 0 ∧ x.value = 0 ∧ x.from' = 0)
  else if x.kind = 2 then decide (x.who = 0)
  else if x.kind = 3 ∨ x.kind = 5 ∨ x.kind = 8 then decide (x.who = 0 ∧ x.from' = 0)
  else if x.kind = 4 then decide (x.who = 0 ∧ x.at' = 0 ∧ x.from' = 0)
  else decide (x.who = 0 ∧ x.at' = 0 ∧ x.value = 0 ∧ x.from' = 0)
def holdsV (m : List Int) (l : List (Int × Int)) : Bool := l.all fun r => decide (m.getD r.1.toNat 0 = r.2)
def setM (m : List Int) (l : List (Int × Int)) : List Int := l.foldl (fun m c => m.set c.1.toNat c.2) m
theorem setM_len (m : List Int) (l : List (Int × Int)) : (setM m l).length = m.length := foldl_set_len l m
theorem setM_snoc (m : List Int) (l : List (Int × Int)) (c : Int × Int) : setM m (l ++ [c]) = (setM m l).set c.1.toNat c.2 := by simp [setM]
def zer (ops : List Int) : List Int := ops.map R14.zeroV
def addsV (ops : List Int) (l : List (Int × Int)) : List Int := l.foldl (fun now c => addN ops now c.1 c.2) (zer ops)
/-- What can be seen behind a commit. -/
def commitV (J : Jb) (S : BS) (a : Nat) (t : Tr) : BS :=
  { S with mem := setM S.mem t.writes, outs := S.outs ++ t.outs, reds := ontoN (J.reds.map Prod.fst) S.reds (addsV (J.reds.map Prod.fst) t.intos) J.reds.length, count := S.count + 1, tries := S.tries.set a none }
def wordB (W x : Int) : Bool := decide (0 ≤ x) && decide (x < W)
/-- What comes of an event that is of a task that may go on (nothing is run again). -/
def stepR (J : Jb) (S : BS) (a : Nat) (x : Ev) : Option BS :=
  if x.kind = 1 then (if S.tries[a]? = some none ∧ 0 ≤ x.who ∧ x.who < 8 then some { S with tries := S.tries.set a (some Tr.none) } else none)
  else match S.tries[a]? with
  | some (some t) =>
    if x.kind = 2 then (if wordB J.words x.at' = true ∧ -1 ≤ x.from' ∧ x.from' < x.age then some { S with tries := S.tries.set a (some { t with reads := t.reads ++ [(x.at', x.value)] }) } else none)
    else if x.kind = 3 then (if wordB J.words x.at' = true then some { S with tries := S.tries.set a (some { t with writes := t.writes ++ [(x.at', x.value)] }) } else none)
    else if x.kind = 4 then some { S with tries := S.tries.set a (some { t with outs := t.outs ++ [x.value] }) }
    else if x.kind = 5 then (if wordB J.reds.length x.at' = true then some { S with tries := S.tries.set a (some { t with intos := t.intos ++ [(x.at', x.value)] }) } else none)
    else if x.kind = 6 then some { S with tries := S.tries.set a (some Tr.none) }
    else if x.kind = 7 then (if x.age = S.count ∧ holdsV S.mem t.reads = true then some (commitV J S a t) else none)
    else if x.kind = 8 then (if x.age = S.count ∧ holdsV S.mem t.reads = true ∧ 2 ≤ x.at' ∧ x.at' ≤ 5 then some { S with fa := x.age, fo := x.at', fv := x.value } else none)
    else none
  | _ => none
/-- May this happen now, and what is told then. -/
def stepE (J : Jb) (n : Int) (S : BS) (x : Ev) : Option BS :=
  if S.fo ≠ 0 ∨ x.age < S.count ∨ n ≤ x.age ∨ leanV x = false then none else stepR J S x.age.toNat x
/-- What an attempt tells may be. -/
structure TrOk (J : Jb) (k : Nat) (t : Tr) : Prop where
  r : ∀ c ∈ t.reads, 0 ≤ c.1 ∧ c.1 < J.words
  w : ∀ c ∈ t.writes, 0 ≤ c.1 ∧ c.1 < J.words
  n : ∀ c ∈ t.intos, 0 ≤ c.1 ∧ c.1 < J.reds.length
  lr : t.reads.length ≤ k
  lw : t.writes.length ≤ k
  lo : t.outs.length ≤ k
  ln : t.intos.length ≤ k
structure SOk (J : Jb) (k : Nat) (S : BS) : Prop where
  mem : (S.mem.length : Int) = J.words
  outs : S.outs.length ≤ k * k
  reds : S.reds.length = J.reds.length
  tl : S.tries.length = 200
  cnt : S.count ≤ k
  tr : ∀ (i : Nat) t, S.tries[i]? = some (some t) → TrOk J k t
/-- Where an attempt stands; to whom the blocks belong is told by `ow`. -/
structure TrH (H : Heap) (ow : Nat → Nat) (i q : Nat) (t : Tr) (yr yw yo yi : Value) : Prop where
  vq : Vr H q 109 4 [yr, yw, yo, yi]
  r : Own H 111 2 t.reads.length (c2 t.reads) yr
  w : Own H 111 2 t.writes.length (c2 t.writes) yw
  o : Own H 2 1 t.outs.length (ci t.outs) yo
  n : Own H 97 2 t.intos.length (c2 t.intos) yi
  lq : ow q = 5 * i
  lr : ∀ b, blkOf yr = some b → ow b = 5 * i + 1
  lw : ∀ b, blkOf yw = some b → ow b = 5 * i + 2
  lo : ∀ b, blkOf yo = some b → ow b = 5 * i + 3
  ln : ∀ b, blkOf yi = some b → ow b = 5 * i + 4
theorem TrH.keep {H H' : Heap} (hw : H.WF) {ow ow' : Nat → Nat} {i q : Nat} {t : Tr} {yr yw yo yi : Value} (h : TrH H ow i q t yr yw yo yi) (hb : H'.base = H.base)
    (hk : ∀ b, b < H.next → 5 * i ≤ ow b → ow b < 5 * i + 5 → H'.blk b = H.blk b) (ho : ∀ b, b < H.next → ow' b = ow b) : TrH H' ow' i q t yr yw yo yi := by
  have bq := hw.lt h.vq.bq
  have e1 := fun b hb => h.r.lt hw (b := b) hb
  have e2 := fun b hb => h.w.lt hw (b := b) hb
  have e3 := fun b hb => h.o.lt hw (b := b) hb
  have e4 := fun b hb => h.n.lt hw (b := b) hb
  refine ⟨h.vq.keep hb (hk q bq (by have := h.lq; omega) (by have := h.lq; omega)), h.r.keep (B_eq hb) fun b hx => hk b (e1 b hx) ?_ ?_, h.w.keep (B_eq hb) fun b hx => hk b (e2 b hx) ?_ ?_, h.o.keep (B_eq hb) fun b hx => hk b (e3 b hx) ?_ ?_,
    h.n.keep (B_eq hb) fun b hx => hk b (e4 b hx) ?_ ?_, by rw [ho q bq]; exact h.lq, fun b hx => by rw [ho b (e1 b hx)]; exact h.lr b hx, fun b hx => by rw [ho b (e2 b hx)]; exact h.lw b hx, fun b hx => by rw [ho b (e3 b hx)]; exact h.lo b hx, fun b hx => by rw [ho b (e4 b hx)]; exact h.ln b hx⟩
  all_goals first | (have := h.lr b hx; omega) | (have := h.lw b hx; omega) | (have := h.lo b hx; omega) | (have := h.ln b hx; omega)
abbrev bkC (J : Jb) (n : Int) (pt : List Value) (xm xo xr : Value) (S : BS) (wh : Bool) : List Value :=
  jobC J ++ (iv n :: (pt ++ [xm, xo, xr, iv S.fa, iv S.fo, iv S.fv, iv S.count, .bool wh]))
/-- Where all stands that was told. -/
structure BK (H0 H : Heap) (p : Nat) (ow : Nat → Nat) (J : Jb) (n : Int) (wh : Bool) (S : BS) (pt : List Value) (xm xo xr : Value) : Prop where
  on : On H0 H
  vp : Vr H p 81 220 (bkC J n pt xm xo xr S wh)
  lp : ow p = 2000
  old : ∀ b, b < H0.next → ow b = 9999
  m : Own H 2 1 S.mem.length (ci S.mem) xm
  o : Own H 2 1 S.outs.length (ci S.outs) xo
  r : Own H 2 1 S.reds.length (ci S.reds) xr
  lm : ∀ b, blkOf xm = some b → ow b = 2001
  lo : ∀ b, blkOf xo = some b → ow b = 2002
  lr : ∀ b, blkOf xr = some b → ow b = 2003
  pl : pt.length = 200
  tl : S.tries.length = 200
  tr : ∀ i, i < 200 → (S.tries[i]? = some none ∧ pt[i]? = some (.pointer none)) ∨ ∃ t q yr yw yo yi, S.tries[i]? = some (some t) ∧ pt[i]? = some (ptr q) ∧ TrH H ow i q t yr yw yo yi
/-- What is read of it. -/
structure BL (H : Heap) (p : Nat) (J : Jb) (n : Int) (pt : List Value) (xm xo xr : Value) (S : BS) (wh : Bool) : Prop where
  l0 : H.load ⟨p, 0, none⟩ = some (iv J.words)
  l2 : H.load ⟨p, 2, none⟩ = some J.xr
  l11 : H.load ⟨p, 11, none⟩ = some (iv n)
  lt : ∀ i : Nat, i < 200 → H.load ⟨p, 12 + i, none⟩ = pt[i]?
  lm : H.load ⟨p, 212, none⟩ = some xm
  lo : H.load ⟨p, 213, none⟩ = some xo
  lr : H.load ⟨p, 214, none⟩ = some xr
  lf : H.load ⟨p, 216, none⟩ = some (iv S.fo)
  lc : H.load ⟨p, 218, none⟩ = some (iv S.count)
  lw : H.load ⟨p, 219, none⟩ = some (.bool wh)
  now : H.loadN ⟨p, 212, none⟩ 0 7 = some [xm, xo, xr, iv S.fa, iv S.fo, iv S.fv, iv S.count]
theorem BL.of {H : Heap} {p : Nat} {J : Jb} {n : Int} {pt : List Value} {xm xo xr : Value} {S : BS} {wh : Bool} (v : Vr H p 81 220 (bkC J n pt xm xo xr S wh)) (pl : pt.length = 200) : BL H p J n pt xm xo xr S wh := by
  have tail : ∀ j, j < 8 → H.load ⟨p, 212 + j, none⟩ = [xm, xo, xr, iv S.fa, iv S.fo, iv S.fv, iv S.count, .bool wh][j]? := fun j hj => by
    rw [v.load, bkC, List.getElem?_append_right (by simp; omega), show 212 + j - (jobC J).length = (200 + j) + 1 from by simp; omega, List.getElem?_cons_succ, List.getElem?_append_right (by omega), pl, show 200 + j - 200 = j by omega]
  refine ⟨v.load 0, v.load 2, v.load 11, fun i hi => ?_, tail 0 (by decide), tail 1 (by decide), tail 2 (by decide), tail 4 (by decide), tail 6 (by decide), tail 7 (by decide), ?_⟩
  · rw [v.load, bkC, List.getElem?_append_right (by simp; omega), show 12 + i - (jobC J).length = i + 1 from by simp; omega, List.getElem?_cons_succ, List.getElem?_append_left (by omega)]
  · exact loadN_cells (H := H) (b := p) (off := 212) (l := [xm, xo, xr, iv S.fa, iv S.fo, iv S.fv, iv S.count]) (i := 0) (fun j hj => by
      have hj7 : j < 7 := hj
      rw [Nat.add_zero, tail j (by omega)]
      match j, hj7 with
      | 0, _ => rfl
      | 1, _ => rfl
      | 2, _ => rfl
      | 3, _ => rfl
      | 4, _ => rfl
      | 5, _ => rfl
      | 6, _ => rfl)
/-- Attempt i is told anew; nothing else is touched. -/
theorem BK.tset {H0 H H' : Heap} {p : Nat} {ow ow' : Nat → Nat} {J : Jb} {n : Int} {wh : Bool} {S : BS} {pt : List Value} {xm xo xr : Value} (B : BK H0 H p ow J n wh S pt xm xo xr) {i : Nat} (hi : i < 200)
    (w : H'.WF) (hb : H'.base = H.base) (hn : H.next ≤ H'.next) (hk : ∀ b, b < H.next → ¬ (5 * i ≤ ow b ∧ ow b < 5 * i + 5) → H'.blk b = H.blk b) (ho : ∀ b, b < H.next → ow' b = ow b)
    {t' : Tr} {q : Nat} {yr yw yo yi : Value} (hq : pt[i]? = some (ptr q)) (T' : TrH H' ow' i q t' yr yw yo yi) : BK H0 H' p ow' J n wh { S with tries := S.tries.set i (some t') } pt xm xo xr := by
  have hw := B.on.wf
  have bp := hw.lt B.vp.bq
  refine ⟨⟨w, hb.trans B.on.base, Nat.le_trans B.on.next hn, fun b hx => ?_⟩, B.vp.keep hb (hk p bp ?_), by rw [ho p bp]; exact B.lp, fun b hx => ?_, B.m.keep (B_eq hb) fun b hx => hk b (B.m.lt hw hx) ?_, B.o.keep (B_eq hb) fun b hx => hk b (B.o.lt hw hx) ?_, B.r.keep (B_eq hb) fun b hx => hk b (B.r.lt hw hx) ?_,
    fun b hx => by rw [ho b (B.m.lt hw hx)]; exact B.lm b hx, fun b hx => by rw [ho b (B.o.lt hw hx)]; exact B.lo b hx, fun b hx => by rw [ho b (B.r.lt hw hx)]; exact B.lr b hx, B.pl, by simp [B.tl], fun j hj => ?_⟩
  · have h1 := B.old b hx
    have h2 := B.on.next
    rw [hk b (by omega) (by omega), B.on.keep b hx]
  · have := B.lp; omega
  · have h2 := B.on.next
    rw [ho b (by omega)]; exact B.old b hx
  · have := B.lm b hx; omega
  · have := B.lo b hx; omega
  · have := B.lr b hx; omega
  · by_cases e : i = j
    · subst e
      exact .inr ⟨t', q, yr, yw, yo, yi, by simp [List.getElem?_set, B.tl, hi], hq, T'⟩
    · rcases B.tr j hj with ⟨h1, h2⟩ | ⟨t, q2, a, b, c, d, h1, h2, h3⟩
      · exact .inl ⟨by simp [List.getElem?_set, e, h1], h2⟩
      · exact .inr ⟨t, q2, a, b, c, d, by simp [List.getElem?_set, e, h1], h2, h3.keep hw hb (fun b hb h4 h5 => hk b hb (by omega)) ho⟩
/-- Nothing that is told is touched. -/
theorem BK.grow {H0 H H' : Heap} {p : Nat} {ow ow' : Nat → Nat} {J : Jb} {n : Int} {wh : Bool} {S : BS} {pt : List Value} {xm xo xr : Value} (B : BK H0 H p ow J n wh S pt xm xo xr) (o : On H H') (ho : ∀ b, b < H.next → ow' b = ow b) : BK H0 H' p ow' J n wh S pt xm xo xr := by
  have hw := B.on.wf
  have bp := hw.lt B.vp.bq
  exact ⟨B.on.trans o, B.vp.on hw o, by rw [ho p bp]; exact B.lp, fun b hx => by have h2 := B.on.next; rw [ho b (by omega)]; exact B.old b hx, Own.on hw B.m o, Own.on hw B.o o, Own.on hw B.r o,
    fun b hx => by rw [ho b (B.m.lt hw hx)]; exact B.lm b hx, fun b hx => by rw [ho b (B.o.lt hw hx)]; exact B.lo b hx, fun b hx => by rw [ho b (B.r.lt hw hx)]; exact B.lr b hx, B.pl, B.tl, fun j hj => by
      rcases B.tr j hj with h | ⟨t, q2, a, b, c, d, h1, h2, h3⟩
      · exact .inl h
      · exact .inr ⟨t, q2, a, b, c, d, h1, h2, h3.keep hw o.base (fun b hb _ _ => o.keep b hb) ho⟩⟩
end Go.Proofs.Ytjkfghekdcalhaa
