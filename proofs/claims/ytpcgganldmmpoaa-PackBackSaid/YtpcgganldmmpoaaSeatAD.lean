/-
  The document's reader: byte by byte.
-/
import Derived.Test.YtpcgganldmmpoaaSeatAC
namespace Go.Proofs.Ytpcgganldmmpoaa
open Go.Ot
set_option linter.unusedSimpArgs false
set_option linter.unusedVariables false
/-- The document's reader as a value. -/
abbrev dR (x : Value) (f : Nat) : Value := .agg #[x, .int .i64 (f : Int)]
/-- A variable of two cells. -/
structure Two (H : Heap) (p : Nat) (a b : Value) : Prop where
  hp : ¬ p < H.B
  bp : H.blk p = some ⟨53, 2, [a, b]⟩
theorem Two.mk' {H : Heap} (hw : H.WF) (a b : Value) : Two (H.new 53 2 [a, b]) H.next a b := ⟨by simpa using hw.next_ge, by simp⟩
theorem Two.new {H : Heap} (hw : H.WF) {p : Nat} {a b : Value} (h : Two H p a b) (ty sz : Nat) (c : List Value) : Two (H.new ty sz c) p a b :=
  ⟨by simpa using h.hp, by have := hw.lt h.bp; simp [show p ≠ H.next by omega, h.bp]⟩
theorem Two.put {H : Heap} {p : Nat} {a b : Value} (h : Two H p a b) (c d : Value) : Two (H.put p [c, d]) p c d := ⟨by simpa using h.hp, by simp [h.bp]⟩
theorem Two.beside {H : Heap} {p : Nat} {a b : Value} (h : Two H p a b) {q : Nat} (hq : p ≠ q) (cs : List Value) : Two (H.put q cs) p a b := ⟨by simpa using h.hp, by simp [hq, h.bp]⟩
theorem Two.load {H : Heap} {p : Nat} {a b : Value} (h : Two H p a b) (j : Nat) : H.load ⟨p, j, none⟩ = [a, b][j]? := load_at h.hp h.bp
theorem Two.loadA {H : Heap} {p : Nat} {a b : Value} (h : Two H p a b) : H.loadN ⟨p, 0, none⟩ 0 2 = some [a, b] := by
  rw [loadN_at h.hp h.bp (by simp)]; rfl
theorem Two.store {H : Heap} {p : Nat} {a b : Value} (h : Two H p a b) (j : Nat) (v : Value) (hj : j < 2) : H.store ⟨p, j, none⟩ v = some (H.put p ([a, b].set j v)) := by
  rw [store_own h.hp h.bp, if_pos (by simpa using hj)]
theorem Two.storeA {H : Heap} {p : Nat} {a b : Value} (h : Two H p a b) (c d : Value) : sStore H 2 (.pointer (some ⟨p, 0, none⟩)) (.agg #[c, d]) = some (H.put p [c, d]) := by
  have := sStore_agg H ⟨p, 0, none⟩ 2 [c, d] rfl (by decide)
  rw [show (#[c, d] : Array Value) = [c, d].toArray from rfl, this, storeN_at h.hp h.bp (by simp)]
  rfl
theorem Two.keep {H H' : Heap} {p : Nat} {a b : Value} (h : Two H p a b) (hb : H'.base = H.base) (hk : H'.blk p = H.blk p) : Two H' p a b := ⟨by rw [B_eq hb]; exact h.hp, by rw [hk]; exact h.bp⟩
theorem Bs.from' {H : Heap} {x : Value} {l : List Nat} (h : Bs H x l) (lo : Nat) (h1 : lo ≤ l.length) :
    ∃ y, sSlice 1 x (some (.int .i64 (lo : Int))) none none = some y ∧ Bs H y (l.drop lo) := by
  by_cases h0 : 0 < l.length
  · obtain ⟨_, _, a, c, h2, h3⟩ := h.part lo l.length h1 (Nat.le_refl _) h0
    exact ⟨_, h2, h3⟩
  · have e : lo = 0 := by omega
    subst e
    have e2 : l = [] := List.length_eq_zero_iff.1 (by omega)
    subst e2
    rcases h with ⟨rfl, _⟩ | ⟨b, off, c, rfl, h⟩
    · exact ⟨.slice none 0 0, by simp [sSlice, bnd], .inl ⟨rfl, rfl⟩⟩
    · refine ⟨_, by simp [sSlice, bnd, add_own]; rfl, .inr ⟨b, off, _, rfl, fun i hi => absurd hi (by simp)⟩⟩
theorem Bs.lenL {H : Heap} {x : Value} {l : List Nat} (h : Bs H x l) : sLenL x = some (.int .i64 (l.length : Int)) := by
  obtain ⟨a, c, rfl⟩ := h.len
  rfl
/-- A later heap: what was there stands as it stood. -/
structure Xt (H0 H : Heap) : Prop where
  base : H.base = H0.base
  next : H0.next ≤ H.next
  wf0 : H0.WF
  wf : H.WF
  old : ∀ b, b < H0.next → H.blk b = H0.blk b
theorem Xt.refl {H : Heap} (hw : H.WF) : Xt H H := ⟨rfl, Nat.le_refl _, hw, hw, fun _ _ => rfl⟩
theorem Xt.trans {H0 H H2 : Heap} (h : Xt H0 H) (g : Xt H H2) : Xt H0 H2 := ⟨g.base.trans h.base, Nat.le_trans h.next g.next, h.wf0, g.wf, fun b hb => (g.old b (Nat.lt_of_lt_of_le hb h.next)).trans (h.old b hb)⟩
theorem Xt.new {H0 H : Heap} (h : Xt H0 H) (ty sz : Nat) (c : List Value) : Xt H0 (H.new ty sz c) :=
  ⟨h.base, Nat.le_trans h.next (by simp), h.wf0, WF_new h.wf _ _ _, fun b hb => by have := h.next; simp [show b ≠ H.next by omega, h.old b hb]⟩
theorem Xt.put {H0 H : Heap} (h : Xt H0 H) {p : Nat} (hp : H0.next ≤ p) (c : List Value) : Xt H0 (H.put p c) :=
  ⟨by simpa using h.base, by simpa using h.next, h.wf0, WF_put h.wf _ _, fun b hb => by simp [show b ≠ p by omega, h.old b hb]⟩
theorem Xt.call {H0 H H' : Heap} (h : Xt H0 H) {f : FuncId} {args : List Value} {v : Value} (hT : T Try.prog f args H v H') (hs : Same H H' []) : Xt H0 H' :=
  ⟨hT.1.trans h.base, Nat.le_trans h.next hT.grow.next, h.wf0, hT.grow.wf h.wf, fun b hb => (hs b (Nat.lt_of_lt_of_le hb h.next) (by simp)).trans (h.old b hb)⟩
theorem Xt.same {H0 H : Heap} (h : Xt H0 H) : Same H0 H [] := fun b hb _ => h.old b hb
theorem Xt.bs {H0 H : Heap} (h : Xt H0 H) {x : Value} {l : List Nat} (hx : Bs H0 x l) : Bs H x l := hx.keep h.wf0 h.base h.old
theorem Xt.two {H0 H : Heap} (h : Xt H0 H) {p : Nat} {a b : Value} (hx : Two H0 p a b) : Two H p a b := hx.keep h.base (h.old p (h.wf0.lt hx.bp))
theorem byteR_T {H0 H : Heap} (hX : Xt H0 H) {xr : Value} {l : List Nat} (hx0 : Bs H0 xr l) (fail : Nat) :
    ∃ v H', T Try.prog 56 [dR xr fail] H v H' ∧ ∃ xr', v = .tuple #[dR xr' (nxS l fail).2.2, .int .u8 ((nxS l fail).1 : Int)] ∧ Bs H0 xr' (nxS l fail).2.1 ∧ Same H H' [] := by
  refine T_by hm light56 ?_
  have hw := hX.wf
  have hx := hX.bs hx0
  obtain ⟨H1, hH1⟩ : ∃ H1, H1 = H.new 53 2 [xr, .int .i64 (fail : Int)] := ⟨_, rfl⟩
  have w1 : H1.WF := by rw [hH1]; exact WF_new hw _ _ _
  have n1 : H1.next = H.next + 1 := by rw [hH1]; rfl
  have v1 : Two H1 H.next xr (.int .i64 (fail : Int)) := by rw [hH1]; exact Two.mk' hw _ _
  have k1 : ∀ b, b < H.next → H1.blk b = H.blk b := fun b hb => by rw [hH1]; simp [show b ≠ H.next by omega]
  obtain ⟨H2, hH2⟩ : ∃ H2, H2 = H1.new 53 2 [.slice none 0 0, .int .i64 0] := ⟨_, rfl⟩
  have w2 : H2.WF := by rw [hH2]; exact WF_new w1 _ _ _
  have v2 : Two H2 H.next xr (.int .i64 (fail : Int)) := by rw [hH2]; exact v1.new w1 _ _ _
  have r2 : Two H2 H1.next (.slice none 0 0) (.int .i64 0) := by rw [hH2]; exact Two.mk' w1 _ _
  have k2 : ∀ b, b < H.next → H2.blk b = H.blk b := fun b hb => by rw [hH2]; simp [show b ≠ H1.next by omega]; exact k1 b hb
  have b2 : H2.base = H.base := by rw [hH2, hH1]; rfl
  have bs2 : Bs H2 xr l := hx.keep hw b2 k2
  rw [n1] at r2
  have ld := v2.load
  have ne : H.next + 1 ≠ H.next := by omega
  have hN : (H.new 53 2 [xr, .int .i64 (fail : Int)]).new 53 2 [.slice none 0 0, .int .i64 0] = H2 := by rw [hH2, hH1]
  have sm : ∀ cs, Same H (H2.put (H.next + 1) cs) [] := fun cs b hb _ => by simp [show b ≠ H.next + 1 by omega]; exact k2 b hb
  have sm2 : ∀ c1 cs, Same H ((H2.put H.next c1).put (H.next + 1) cs) [] := fun c1 cs b hb _ => by simp [show b ≠ H.next + 1 by omega, show b ≠ H.next by omega]; exact k2 b hb
  by_cases hf : fail = 0
  case neg =>
    have e : nxS l fail = (0, l, fail) := by simp [nxS, hf]
    rw [e]
    have la := v2.loadA
    have sa := r2.storeA xr (.int .i64 (fail : Int))
    have ra := (r2.put xr (.int .i64 (fail : Int))).loadA
    simp [L56, hN, ld, hf, la, sa, ra]
    exact ⟨hx0, sm _⟩
  subst hf
  have hN0 : (H.new 53 2 [xr, .int .i64 0]).new 53 2 [.slice none 0 0, .int .i64 0] = H2 := hN
  have hlx := hx.lenL
  cases l with
  | nil =>
    have e : nxS [] 0 = (0, [], 20) := rfl
    rw [e]
    have st := v2.store 1 (.int .i64 20) (by decide)
    simp only [List.set_cons_succ, List.set_cons_zero] at st
    have v3 := v2.put xr (.int .i64 20)
    have la := v3.loadA
    have r3 := r2.beside ne [xr, .int .i64 20]
    have sa := r3.storeA xr (.int .i64 20)
    have ra := (r3.put xr (.int .i64 20)).loadA
    simp [L56, hN0, ld, hlx, st, la, sa, ra]
    exact ⟨hx0, sm2 _ _⟩
  | cons c l =>
    have e : nxS (c :: l) 0 = (c, l, 0) := rfl
    rw [e]
    obtain ⟨y, hy, by'⟩ := hx0.from' 1 (by simp)
    have hy' : sSlice 1 xr (some (.int .i64 1)) none none = some y := hy
    obtain ⟨b, off, c', hxb, ldc⟩ := bs2.at (i := 0) (by simp)
    have hix : sIdx 1 xr (.int .i64 0) = some (.pointer (some ⟨b, off, none⟩)) := by rw [hxb]; simp
    have st := v2.store 0 y (by decide)
    simp only [List.set_cons_zero] at st
    have v3 := v2.put y (.int .i64 0)
    have la := v3.loadA
    have r3 := r2.beside ne [y, .int .i64 0]
    have sa := r3.storeA y (.int .i64 0)
    have ra := (r3.put y (.int .i64 0)).loadA
    have hl0 : ¬ ((l.length : Int) + 1 = 0) := by omega
    simp only [List.getElem_cons_zero, Nat.add_zero] at ldc
    obtain ⟨ya, yc, hyy⟩ := by'.len
    have st1 : sStore H2 1 (.pointer (some ⟨H.next, 0, none⟩)) y = some (H2.put H.next [y, .int .i64 0]) := by
      have := st
      rw [hyy] at this ⊢
      simpa using this
    simp [L56, hN0, ld, hlx, hl0, hy', hix, ldc, st1, la, sa, ra]
    exact ⟨by', sm2 _ _⟩
/-- A reader taken on: the answer is its own, and the rows are the old ones. -/
theorem dr_one (x : Value) (f : Nat) : dR x f = .agg [x, .int .i64 (f : Int)].toArray := rfl
def InvTU (H0 H : Heap) (pa : Nat) (want : Nat × List Nat × Nat) (k : Nat) (t : Tm) (H1 : Heap) : Prop :=
  ∃ (i a : Nat) (l : List Nat) (xr c d : Value), i + (k + 1) = 10 ∧ t 1 = ptr pa ∧ t 2 = ptr (pa + 1) ∧ t 4 = .int .u64 (a : Int) ∧ t 5 = .int .u64 ((2 ^ (7 * i) : Nat) : Int) ∧ t 6 = .int .i64 (i : Int) ∧ a < 2 ^ (7 * i) ∧
    Xt H H1 ∧ Two H1 pa xr (.int .i64 0) ∧ Two H1 (pa + 1) c d ∧ Bs H0 xr l ∧ (∀ c ∈ l, c < 256) ∧ tu (k + 1) i a l = want
theorem uintR2_T {H0 H : Heap} (hX : Xt H0 H) {xr : Value} {l : List Nat} (hx0 : Bs H0 xr l) (hlt : ∀ c ∈ l, c < 256) (fail : Nat) :
    ∃ v H', T Try.prog 49 [dR xr fail] H v H' ∧ ∃ xr', v = .tuple #[dR xr' (uS l fail).2.2, .int .u64 ((uS l fail).1 : Int)] ∧ Bs H0 xr' (uS l fail).2.1 ∧ Same H H' [] := by
  refine T_by hm light49 ?_
  have hw := hX.wf
  obtain ⟨H1, hH1⟩ : ∃ H1, H1 = H.new 53 2 [xr, .int .i64 (fail : Int)] := ⟨_, rfl⟩
  have X1 : Xt H H1 := by rw [hH1]; exact (Xt.refl hw).new _ _ _
  have n1 : H1.next = H.next + 1 := by rw [hH1]; rfl
  have v1 : Two H1 H.next xr (.int .i64 (fail : Int)) := by rw [hH1]; exact Two.mk' hw _ _
  obtain ⟨H2, hH2⟩ : ∃ H2, H2 = H1.new 53 2 [.slice none 0 0, .int .i64 0] := ⟨_, rfl⟩
  have X2 : Xt H H2 := by rw [hH2]; exact X1.new _ _ _
  have v2 : Two H2 H.next xr (.int .i64 (fail : Int)) := by rw [hH2]; exact v1.new X1.wf _ _ _
  have r2 : Two H2 H1.next (.slice none 0 0) (.int .i64 0) := by rw [hH2]; exact Two.mk' X1.wf _ _
  rw [n1] at r2
  have hN : (H.new 53 2 [xr, .int .i64 (fail : Int)]).new 53 2 [.slice none 0 0, .int .i64 0] = H2 := by rw [hH2, hH1]
  have ne : H.next + 1 ≠ H.next := by omega
  -- the end: the reader is put into the answer's place
  have fin : ∀ (G : Heap) (xr' c d : Value) (f' : Nat), Xt H G → Two G H.next xr' (.int .i64 (f' : Int)) → Two G (H.next + 1) c d →
      G.loadN ⟨H.next, 0, none⟩ 0 2 = some [xr', .int .i64 (f' : Int)] ∧ sStore G 2 (.pointer (some ⟨H.next + 1, 0, none⟩)) (.agg #[xr', .int .i64 (f' : Int)]) = some (G.put (H.next + 1) [xr', .int .i64 (f' : Int)]) ∧
      (G.put (H.next + 1) [xr', .int .i64 (f' : Int)]).loadN ⟨H.next + 1, 0, none⟩ 0 2 = some [xr', .int .i64 (f' : Int)] ∧ Same H (G.put (H.next + 1) [xr', .int .i64 (f' : Int)]) [] :=
    fun G xr' c d f' hG h1 h2 => ⟨h1.loadA, h2.storeA _ _, (h2.put _ _).loadA, (hG.put (Nat.le_succ _) _).same⟩
  by_cases hf : fail = 0
  case neg =>
    have e : uS l fail = (0, l, fail) := by simp [uS, hf]
    rw [e]
    obtain ⟨la, sa, ra, sm⟩ := fin H2 xr _ _ fail X2 v2 r2
    have ld := v2.load
    simp [L49, hN]
    refine loop_at (fun (k : Nat) (t : Tm) (G : Heap) => t 1 = ptr H.next ∧ t 2 = ptr (H.next + 1) ∧ G = H2) 10 ?_ ?_
    · simp
    · rintro k t G ⟨t1, t2, rfl⟩
      simp [L49_1, t1, t2, ld, hf, la, sa, ra]
      exact ⟨hx0, sm⟩
  subst hf
  have e : uS l 0 = tu 10 0 0 l := by simp [uS]
  rw [e]
  obtain ⟨want, hwant⟩ : ∃ want, want = tu 10 0 0 l := ⟨_, rfl⟩
  rw [← hwant]
  have hN0 : (H.new 53 2 [xr, .int .i64 0]).new 53 2 [.slice none 0 0, .int .i64 0] = H2 := hN
  simp [L49, hN0]
  refine loop_at (InvTU H0 H H.next want) 9 ?_ ?_
  · exact ⟨0, 0, l, xr, _, _, rfl, by simp, by simp, by simp, by simp, by simp, by simp, X2, v2, r2, hx0, hlt, hwant.symm⟩
  · rintro k t G ⟨i, a, l, xr, c0, d0, hik, t1, t2, t4, t5, t6, ha, XG, vG, rG, bG, hlt, htu⟩
    have hi : i < 10 := by omega
    have ldG := vG.load
    have laG := vG.loadA
    obtain ⟨v3, G2, T3, xr', rfl, b', s3⟩ := byteR_T (hX.trans XG) bG 0
    have X2' := XG.call T3 s3
    have v3' : Two G2 H.next xr (.int .i64 0) := vG.keep T3.1 (s3 _ (XG.wf.lt vG.bp) (by simp))
    have r3' : Two G2 (H.next + 1) c0 d0 := rG.keep T3.1 (s3 _ (XG.wf.lt rG.bp) (by simp))
    cases l with
    | nil =>
      simp only [tu] at htu
      subst htu
      have e1 : nxS [] 0 = (0, [], 20) := rfl
      rw [e1] at T3 b'
      change T Try.prog 56 _ _ (.tuple #[.agg #[xr', .int .i64 20], .int .u8 0]) _ at T3
      have sa3 := v3'.storeA xr' (.int .i64 20)
      have v4 := v3'.put xr' (.int .i64 20)
      have ld4 := v4.load
      obtain ⟨la, sa, ra, sm⟩ := fin _ xr' _ _ 20 (X2'.put (Nat.le_refl _) [xr', .int .i64 20]) v4 (r3'.beside ne _)
      have la' : (G2.put H.next [xr', .int .i64 20]).loadN ⟨H.next, 0, none⟩ 0 2 = some [xr', .int .i64 20] := la
      obtain ⟨G4, hG4⟩ : ∃ G4, G4 = G2.put H.next [xr', .int .i64 20] := ⟨_, rfl⟩
      have sa' : sStore G4 2 (.pointer (some ⟨H.next + 1, 0, none⟩)) (.agg #[xr', .int .i64 20]) = some (G4.put (H.next + 1) [xr', .int .i64 20]) := by rw [hG4]; exact sa
      have ra' : (G4.put (H.next + 1) [xr', .int .i64 20]).loadN ⟨H.next + 1, 0, none⟩ 0 2 = some [xr', .int .i64 20] := by rw [hG4]; exact ra
      have sm' : Same H (G4.put (H.next + 1) [xr', .int .i64 20]) [] := by rw [hG4]; exact sm
      rw [← hG4] at sa3 ld4 la'
      simp [L49_1, t1, t2, t6, ldG, laG]
      refine goT_of T3 ?_
      simp [t1, t2, sa3, ld4, la', sa', ra']
      exact ⟨b', sm'⟩
    | cons c l =>
      have e1 : nxS (c :: l) 0 = (c, l, 0) := rfl
      rw [e1] at T3 b'
      simp only at b'
      change T Try.prog 56 _ _ (.tuple #[.agg #[xr', .int .i64 0], .int .u8 (c : Int)]) _ at T3
      have hc := hlt c (by simp)
      obtain ⟨U, hU, U0, U8, U9⟩ := units i (by omega)
      simp only [tu] at htu
      obtain ⟨m, hmm⟩ : ∃ m, m = c % 128 := ⟨_, rfl⟩
      rw [← hU, ← hmm] at htu
      rw [← hU] at ha t5
      have sa3 : sStore G2 2 (.pointer (some ⟨H.next, 0, none⟩)) (.agg #[xr', .int .i64 0]) = some (G2.put H.next [xr', .int .i64 0]) := v3'.storeA xr' (.int .i64 0)
      have v4 := v3'.put xr' (.int .i64 0)
      have r4 := r3'.beside ne [xr', .int .i64 0]
      have X4 := X2'.put (Nat.le_refl _) [xr', .int .i64 0]
      obtain ⟨G4, hG4⟩ : ∃ G4, G4 = G2.put H.next [xr', .int .i64 0] := ⟨_, rfl⟩
      rw [← hG4] at sa3 v4 r4 X4
      have ld4 := v4.load
      by_cases hbad : (0 < i ∧ c = 0) ∨ (i = 9 ∧ 1 < c)
      · rw [if_pos hbad] at htu
        subst htu
        have st4 := v4.store 1 (.int .i64 21) (by decide)
        simp only [List.set_cons_succ, List.set_cons_zero] at st4
        have v5 := v4.put xr' (.int .i64 21)
        obtain ⟨la, sa, ra, sm⟩ := fin _ xr' _ _ 21 (X4.put (Nat.le_refl _) [xr', .int .i64 21]) v5 (r4.beside ne _)
        obtain ⟨G5, hG5⟩ : ∃ G5, G5 = G4.put H.next [xr', .int .i64 21] := ⟨_, rfl⟩
        have la' : G5.loadN ⟨H.next, 0, none⟩ 0 2 = some [xr', .int .i64 21] := by rw [hG5]; exact la
        have sa' : sStore G5 2 (.pointer (some ⟨H.next + 1, 0, none⟩)) (.agg #[xr', .int .i64 21]) = some (G5.put (H.next + 1) [xr', .int .i64 21]) := by rw [hG5]; exact sa
        have ra' : (G5.put (H.next + 1) [xr', .int .i64 21]).loadN ⟨H.next + 1, 0, none⟩ 0 2 = some [xr', .int .i64 21] := by rw [hG5]; exact ra
        have sm' : Same H (G5.put (H.next + 1) [xr', .int .i64 21]) [] := by rw [hG5]; exact sm
        rw [← hG5] at st4
        simp [L49_1, t1, t2, t6, ldG, laG]
        refine goT_of T3 ?_
        rcases hbad with ⟨h1, h2⟩ | ⟨h1, h2⟩
        · subst h2
          simp [t1, t2, t6, sa3, ld4, h1, st4, la', sa', ra']
          exact ⟨b', sm'⟩
        · have e3 : ¬ c = 0 := by omega
          subst h1
          simp [t1, t2, t6, sa3, ld4, h2, e3, st4, la', sa', ra']
          exact ⟨b', sm'⟩
      · rw [if_neg hbad] at htu
        have f1 : i = 9 → c ≤ 1 := by intro h; omega
        have e1 := rem_nat .u8 c 128 (by decide)
        have e2 : IntKind.u64.wrap (m : Int) = (m : Int) := wu64 _ (by omega)
        obtain ⟨s, hs⟩ : ∃ s, s = m * U := ⟨_, rfl⟩
        have hs64 : s < 18446744073709551616 := by
          rw [hs]
          by_cases h9 : i = 9
          · have := f1 h9; rw [U9 h9]; omega
          · have := (U8 (by omega)).1
            have : m * U ≤ 127 * 72057594037927936 := Nat.mul_le_mul (by omega) this
            omega
        have has : a + s < 18446744073709551616 := by
          by_cases h9 : i = 9
          · have h1 := f1 h9
            have h2 := U9 h9
            have : m * U ≤ 1 * U := Nat.mul_le_mul_right _ (by omega)
            omega
          · have h1 := (U8 (by omega)).1
            have : m * U ≤ 127 * U := Nat.mul_le_mul_right _ (by omega)
            omega
        have e4 : IntKind.u64.wrap ((m : Int) * (U : Int)) = (s : Int) := by
          rw [show (m : Int) * (U : Int) = ((s : Nat) : Int) by rw [hs]; simp, wu64 _ (by omega)]
        have e5 : IntKind.u64.wrap ((a : Int) + (s : Int)) = ((a + s : Nat) : Int) := by rw [wu64 _ (by omega)]; omega
        have e7 : IntKind.i64.wrap ((i : Int) + 1) = ((i + 1 : Nat) : Int) := by rw [w64 _ (by omega)]; omega
        have g1 : 0 < i → ¬ c = 0 := fun h1 h2 => hbad (.inl ⟨h1, h2⟩)
        obtain ⟨i1, hi1⟩ : ∃ i1, i1 = i + 1 := ⟨_, rfl⟩
        obtain ⟨a1, ha1⟩ : ∃ a1, a1 = a + s := ⟨_, rfl⟩
        rw [← hmm] at e1
        rw [← hi1] at e7
        rw [← ha1] at e5
        rw [← hs, ← ha1] at htu
        have e1' : sBin .rem (.int .u8 (c : Int)) (.int .u8 128) = some (.int .u8 (m : Int)) := e1
        simp [L49_1, t1, t2, t6, ldG, laG]
        refine goT_of T3 ?_
        by_cases h128 : c < 128
        · rw [if_pos h128] at htu
          subst htu
          obtain ⟨la, sa, ra, sm⟩ := fin _ xr' _ _ 0 X4 v4 r4
          have la' : G4.loadN ⟨H.next, 0, none⟩ 0 2 = some [xr', .int .i64 0] := la
          have sa' : sStore G4 2 (.pointer (some ⟨H.next + 1, 0, none⟩)) (.agg #[xr', .int .i64 0]) = some (G4.put (H.next + 1) [xr', .int .i64 0]) := sa
          have ra' : (G4.put (H.next + 1) [xr', .int .i64 0]).loadN ⟨H.next + 1, 0, none⟩ 0 2 = some [xr', .int .i64 0] := ra
          by_cases hi0 : i = 0
          · have g5 : ¬ 0 < i := by omega
            have h9 : ¬ i = 9 := by omega
            simp [t1, t2, t4, t5, t6, sa3, ld4, g5, h9, e1', e2, e4, e5, h128, la', sa', ra']
            exact ⟨b', sm⟩
          · have g5 : 0 < i := by omega
            have hc0 : ¬ c = 0 := g1 g5
            by_cases h9 : i = 9
            · have := f1 h9
              have g7 : ¬ 1 < c := by omega
              have h9d : decide (i = 9) = true := by simp [h9]
              simp [t1, t2, t4, t5, t6, sa3, ld4, g5, hc0, g7, h9d, e1', e2, e4, e5, h128, la', sa', ra']
              exact ⟨b', sm⟩
            · simp [t1, t2, t4, t5, t6, sa3, ld4, g5, hc0, h9, e1', e2, e4, e5, h128, la', sa', ra']
              exact ⟨b', sm⟩
        · rw [if_neg h128] at htu
          have h9 : ¬ i = 9 := fun h => by have := f1 h; omega
          have hc0 : ¬ c = 0 := by omega
          obtain ⟨U2, hU2⟩ : ∃ U2, U2 = U * 128 := ⟨_, rfl⟩
          have e8 : IntKind.u64.wrap ((U : Int) * 128) = ((U2 : Nat) : Int) := by
            have := (U8 (by omega)).1
            rw [wu64 _ (by omega)]; omega
          have hp2 : 2 ^ (7 * i1) = U2 := by rw [hi1, (U8 (by omega)).2, hU2]
          have hfin : a1 < 2 ^ (7 * i1) := by
            rw [hp2, hU2, ha1, hs]
            have : m * U ≤ 127 * U := Nat.mul_le_mul_right _ (by omega)
            omega
          cases k with
          | zero => omega
          | succ k =>
            by_cases hi0 : i = 0
            · have g5 : ¬ 0 < i := by omega
              simp [t1, t2, t4, t5, t6, sa3, ld4, g5, h9, e1', e2, e4, e5, h128, e8, e7]
              exact ⟨k, Nat.lt_succ_self k, i1, a1, l, xr', c0, d0, by omega, by simp [t1], by simp [t2], by simp, by simp [hp2], by simp, hfin, X4, v4, r4, b', fun c hc => hlt c (by simp [hc]), by rw [hi1]; exact htu⟩
            · have g5 : 0 < i := by omega
              simp [t1, t2, t4, t5, t6, sa3, ld4, g5, hc0, h9, e1', e2, e4, e5, h128, e8, e7]
              exact ⟨k, Nat.lt_succ_self k, i1, a1, l, xr', c0, d0, by omega, by simp [t1], by simp [t2], by simp, by simp [hp2], by simp, hfin, X4, v4, r4, b', fun c hc => hlt c (by simp [hc]), by rw [hi1]; exact htu⟩
end Go.Proofs.Ytpcgganldmmpoaa
