/-
  Chapter 26: a job taken up. Chapter 26: entries taken up. Chapter 26: two plays that are the same. Chapter 26: what is read of bytes keeps within bounds.
-/
import Derived.Test.YtnomffikflfilaaGreatSeatRH
namespace Go.Proofs.YtnomffikflfilaaGreat.E8
open I8
open Go.Ot Go.RowKit
open R14 (ci Twos)
set_option linter.unusedSimpArgs false
set_option linter.unusedVariables false
set_option maxRecDepth 100000
theorem Twos.frm {G G' : Heap} {x : Value} {l : List (Int × Int)} (h : Twos G x l) (hb : G'.base = G.base) (hk : ∀ c, blkOf x = some c → G'.blk c = G.blk c) : Twos G' x l := by
  rcases h with h | ⟨b, off, c, rfl, h⟩
  · exact .inl h
  · refine .inr ⟨b, off, c, rfl, fun i hi => ?_⟩
    have e := hk b rfl
    rw [load_frame hb e, load_frame hb e]; exact h i hi
structure CsX (G : Heap) (y : Value) (acc : List (List In)) (ys : List Value) : Prop where
  len : ys.length = acc.length
  own : Own G 103 1 ys.length ys y
  row : ∀ (i : Nat) (h : i < acc.length), ∃ w, ys[i]? = some w ∧ Rws G 6 w (acc[i].map rowI)
theorem Cs.frm' {G G' : Heap} {n0 : Nat} {y : Value} {acc : List (List In)} {ys : List Value} (h : Cs G n0 y acc ys) (hw : G.WF) (hb : G'.base = G.base) (hk : ∀ c, n0 ≤ c → c < G.next → G'.blk c = G.blk c) : CsX G' y acc ys := by
  refine ⟨h.len, h.own.keep (B_eq hb) (fun c hc => hk c (h.new c hc) (h.own.lt hw hc)), fun i hi => ?_⟩
  obtain ⟨w, h1, h2, h3⟩ := h.row i hi
  exact ⟨w, h1, Rws.frm h2 hb (fun c hc => by obtain ⟨a, b, _⟩ := h3 c hc; exact hk c a b)⟩
def frE (x : In) : I8.In := ⟨x.kind, x.op, x.a, x.b, x.c, x.k⟩
theorem frE_rows (l : List In) : (l.map frE).map I8.rowI = l.map rowI := by rw [List.map_map]; rfl
def frK (l : List (List In)) : List (List I8.In) := l.map (·.map frE)
theorem CsX.cds {G : Heap} {y : Value} {acc : List (List In)} {ys : List Value} (h : CsX G y acc ys) : Cds G y (frK acc) := by
  have hl := h.len
  have e : ∀ l : List Value, (l.map fun v => [v]).flatten = l := fun l => by
    induction l with
    | nil => rfl
    | cons a l ih => rw [List.map_cons, List.flatten_cons, ih]; rfl
  have h1 : Own G 103 1 (ys.map fun v => [v]).length (ys.map fun v => [v]).flatten y := by
    rw [e, List.length_map]; exact h.own
  rcases h1.rws (by simp) with ⟨rfl, h0⟩ | ⟨b, off, c, rfl, h3⟩
  · have h0' : ys = [] := by simpa using h0
    subst h0'
    refine .inl ⟨rfl, ?_⟩
    have : acc = [] := List.length_eq_zero_iff.1 hl.symm
    rw [this]; rfl
  · refine .inr ⟨b, off, c, by simp [hl, frK], fun i hi' => ?_⟩
    have hi : i < acc.length := by simpa [frK] using hi'
    obtain ⟨w, w1, w2⟩ := h.row i hi
    have hi2 : i < ys.length := by omega
    obtain ⟨_, h2⟩ := h3 i (by simpa using hi2)
    have h4 := h2 0 (by simp)
    have hw : ys[i] = w := by
      rw [List.getElem?_eq_getElem hi2] at w1
      exact Option.some.inj w1
    simp [hw] at h4
    refine ⟨w, h4, ?_⟩
    simp only [frK, List.getElem_map]
    rw [frE_rows]; exact w2
structure Jp where
  words : Int
  fuel : Int
  S : Shp
  cells : List (Int × Int)
  reds : List (Int × Int)
  codes : List (List I8.In)
def Jp.jb (P : Jp) (xc xr xk : Value) : Jb := ⟨P.words, P.fuel, P.S, P.cells, P.reds, P.codes, xc, xr, xk⟩
def ksS (P : Jp) (l : List Nat) (f : Nat) : Int × List (List In) × List Nat × Nat := codesS P.reds.length (countS l f 1).1 (countS l f 1).2.1 (countS l f 1).2.2 []
def tKs (P : Jp) (l : List Nat) (f : Nat) : Int × Jp × List Nat × Nat :=
  if (ksS P l f).1 ≠ 0 then ((ksS P l f).1, P, (ksS P l f).2.2) else (((ksS P l f).2.2.2 : Int), { P with codes := frK (ksS P l f).2.1 }, (ksS P l f).2.2)
def tLs (P : Jp) (l : List Nat) (f : Nat) : Int × Jp × List Nat × Nat :=
  if (listS l f).1.length = 5 then tKs { P with S := ⟨P.S.kind, (listS l f).1.getD 0 0, (listS l f).1.getD 1 0, (listS l f).1.getD 2 0, (listS l f).1.getD 3 0, (listS l f).1.getD 4 0⟩ } (listS l f).2.1 (listS l f).2.2
  else if (listS l f).2.2 = 0 then (260, P, (listS l f).2) else tKs P (listS l f).2.1 (listS l f).2.2
def tFs (P : Jp) (l : List Nat) (f : Nat) : Int × Jp × List Nat × Nat :=
  tLs { P with fuel := (rdP M31 l f).1, S := { P.S with kind := (rdP M31 (rdP M31 l f).2.1 (rdP M31 l f).2.2).1 } } (rdP M31 (rdP M31 l f).2.1 (rdP M31 l f).2.2).2.1 (rdP M31 (rdP M31 l f).2.1 (rdP M31 l f).2.2).2.2
def rowS2 (l : List Nat) (f : Nat) : List (Int × Int) × List Nat × Nat := cellsS (countS l f 2).1 (countS l f 2).2.1 (countS l f 2).2.2 []
def tRs (P : Jp) (l : List Nat) (f : Nat) : Int × Jp × List Nat × Nat := tFs { P with reds := (rowS2 l f).1 } (rowS2 l f).2.1 (rowS2 l f).2.2
def tCs (P : Jp) (l : List Nat) (f : Nat) : Int × Jp × List Nat × Nat := tRs { P with cells := (rowS2 l f).1 } (rowS2 l f).2.1 (rowS2 l f).2.2
def jp0 (w : Int) : Jp := ⟨w, 0, ⟨0, 0, 0, 0, 0, 0⟩, [], [], []⟩
def jobS (l : List Nat) (f : Nat) : Int × Jp × List Nat × Nat := tCs (jp0 (rdP M31 l f).1) (rdP M31 l f).2.1 (rdP M31 l f).2.2
structure Jr (H : Heap) (P : Jp) (xc xr xk : Value) : Prop where
  xc : Twos H xc P.cells
  xr : Twos H xr P.reds
  xk : Cds H xk P.codes
theorem Jr.on {H H1 : Heap} (hw : H.WF) {P : Jp} {xc xr xk : Value} (h : Jr H P xc xr xk) (o : On H H1) : Jr H1 P xc xr xk := ⟨h.xc.keep hw o.base o.keep, h.xr.keep hw o.base o.keep, h.xk.on hw o⟩
def JrF (N : Nat) (G : Heap) (P : Jp) (xc xr xk : Value) : Prop := ∀ G2 : Heap, G2.base = G.base → (∀ c, N ≤ c → c < G.next → G2.blk c = G.blk c) → Jr G2 P xc xr xk
theorem JrF.fr {N : Nat} {G G' : Heap} {P : Jp} {xc xr xk : Value} (h : JrF N G P xc xr xk) (hb : G'.base = G.base) (hn : G.next ≤ G'.next) (hk : ∀ c, N ≤ c → c < G.next → G'.blk c = G.blk c) : JrF N G' P xc xr xk :=
  fun G2 b k => h G2 (b.trans hb) (fun c h1 h2 => (k c h1 (by omega)).trans (hk c h1 h2))
theorem JrF.jr {N : Nat} {G : Heap} {P : Jp} {xc xr xk : Value} (h : JrF N G P xc xr xk) : Jr G P xc xr xk := h G rfl (fun _ _ _ => rfl)
def FinJ (H : Heap) (p z : Nat) (x : Value) (b : List Nat) (r : Int × Jp × List Nat × Nat) (Q : Post) : Prop :=
  ∀ (t' : Tm) (G' : Heap) (cs : List Value), t' 2 = ptr z → t' 3 = iv r.1 → Rn H G' p x b r.2.2.1 r.2.2.2 → Vr G' z 29 11 cs → cs.length = 11 →
    (r.1 = 0 → ∃ xc xr xk, cs = jobC (r.2.1.jb xc xr xk) ∧ JrF H.next G' r.2.1 xc xr xk) → Q .ret t' (rdy G')
theorem L52_eq : L52 = K52_0 := rfl
def Past (G : Heap) (N : Nat) (x : Value) : Prop := ∀ c, blkOf x = some c → N ≤ c ∧ c < G.next
theorem texts_w {H G : Heap} {p q z N : Nat} {x : Value} {b l : List Nat} {f : Nat} {P : Jp} {xc xr : Value} (R : Rn H G p x b l f) (hbl : b.length ≤ 2000000) (hq : H.next ≤ q) (hz : H.next ≤ z) (hqz : q ≠ z) (hN : q < N ∧ z < N ∧ N ≤ G.next)
    (V : Vr G q 29 11 (jobC (P.jb xc xr (.slice none 0 0)))) (Z : Vr G z 29 11 zer11) (tc : Twos G xc P.cells) (oc : Past G N xc) (tr : Twos G xr P.reds) (or : Past G N xr)
    {Q : Post} {t : Tm} (t0 : t 0 = ptr p) (t2 : t 2 = ptr z) (t4 : t 4 = ptr q) (hQ : FinJ H p z x b (tKs P l f) Q) : wpA Tryz.prog K52_7 Q t (rdy G) := by
  have hpN : p < H.next := R.hp
  have T1 := rcount_T R.rs 1 (by unfold okI2; omega)
  have R1 := R.step (countS l f 1).2.2 (countS_suf l f 1)
  have hsm : (countS l f 1).1 ≤ 2000000 := Nat.le_trans count_small (Nat.le_trans R.rs.suf.length_le hbl)
  unfold tKs ksS at hQ
  obtain ⟨n, hn⟩ : ∃ n, n = (countS l f 1).1 := ⟨_, rfl⟩
  obtain ⟨l1, hl1⟩ : ∃ l1, l1 = (countS l f 1).2.1 := ⟨_, rfl⟩
  obtain ⟨f1, hf1⟩ : ∃ f1, f1 = (countS l f 1).2.2 := ⟨_, rfl⟩
  rw [← hn, ← hl1, ← hf1] at T1 hQ
  rw [← hl1, ← hf1] at R1
  rw [← hn] at hsm
  obtain ⟨G1, hG1⟩ : ∃ G1, G1 = G.put p (rsC x b l1 f1) := ⟨_, rfl⟩
  rw [← hG1] at T1 R1
  have n1 : G1.next = G.next := by rw [hG1]; rfl
  have hqp : q ≠ p := by omega
  have hzp : z ≠ p := by omega
  have V1 : Vr G1 q 29 11 (jobC (P.jb xc xr (.slice none 0 0))) := by rw [hG1]; exact V.beside hqp _
  have Z1 : Vr G1 z 29 11 zer11 := by rw [hG1]; exact Z.beside hzp _
  have k1 : ∀ c, N ≤ c → G1.blk c = G.blk c := fun c hc => by rw [hG1]; simp [show c ≠ p by have := R.next; omega]
  have b1 : G1.base = G.base := by rw [hG1]; rfl
  have tc1 := Twos.frm tc b1 (fun c hc => k1 c (oc c hc).1)
  have tr1 := Twos.frm tr b1 (fun c hc => k1 c (or c hc).1)
  obtain ⟨ar, cr, hxr⟩ := tr.len
  obtain ⟨S, hS⟩ : ∃ S, S = codesS (P.reds.length : Int) n l1 f1 [] := ⟨_, rfl⟩
  rw [← hS] at hQ
  simp [K52_7, t0]
  refine goT_of T1 ?_
  simp
  refine codesT (nr := P.reds.length) (ar := ar) (cr := cr) R1 hbl hq hz hqz V1 Z1 rfl rfl (by show some xr = _; rw [hxr]) hsm (by simp [t0]) (by simp [t2]) (by simp [t4]) (by simp) (by simp) ?_ ?_
  · intro t' G' he u2 u3 R' Z' _ _
    rw [← hS] at he u3 R'
    rw [if_pos he] at hQ
    simp
    exact hQ t' G' zer11 u2 u3 R' Z' rfl (fun h => absurd h he)
  · intro t' G' xk ys he u0 u2 u4 R' V' Z' C' hn' sm'
    rw [← hS] at he R' C'
    rw [if_neg (by simpa using he)] at hQ
    have T2 := fail_S R'.rs
    obtain ⟨l2, hl2⟩ : ∃ l2, l2 = S.2.2.1 := ⟨_, rfl⟩
    obtain ⟨f2, hf2⟩ : ∃ f2, f2 = S.2.2.2 := ⟨_, rfl⟩
    have hS2 : S.2.2 = (l2, f2) := by rw [hl2, hf2]
    rw [← hf2] at T2
    rw [← hl2, ← hf2] at R'
    rw [hS2] at hQ
    have ld := V'.loadA (m := 11) rfl
    obtain ⟨J, hJ⟩ : ∃ J : List Value, J = (jobC (P.jb xc xr (.slice none 0 0))).set 10 xk := ⟨_, rfl⟩
    have hJ2 : J = jobC (({ P with codes := frK S.2.1 } : Jp).jb xc xr xk) := by rw [hJ]; rfl
    have hJl : J.length = 11 := by rw [hJ2]; rfl
    rw [← hJ] at ld V'
    have st := Z'.storeA (m := 11) (by decide) J hJl rfl
    simp [K52_8, K52_9, u4, ld, u0]
    refine goT_of T2 ?_
    simp [u2, u4, ld, st]
    have bz : (G'.put z J).base = G1.base := (R'.base.trans R1.base.symm)
    refine hQ _ _ J (by simp [u2]) (by simp) (R'.put hz _) (Z'.put _) hJl (fun _ => ⟨xc, xr, xk, hJ2, fun G2 hb2 hk2 => ?_⟩)
    have hRn := R.next
    have kz : ∀ c, N ≤ c → c < G'.next → G2.blk c = G'.blk c := fun c h1 h2 => by rw [hk2 c (by omega) (by simpa using h2)]; simp [show c ≠ z by omega]
    have kk : ∀ c, N ≤ c → c < G.next → G2.blk c = G1.blk c := fun c h1 h2 => by rw [kz c h1 (by omega)]; exact sm' c (by omega) (by simp; omega)
    exact ⟨Twos.frm tc1 (hb2.trans bz) (fun c hc => kk c (oc c hc).1 (oc c hc).2), Twos.frm tr1 (hb2.trans bz) (fun c hc => kk c (or c hc).1 (or c hc).2),
      (C'.frm' (G' := G2) R'.wf hb2 (fun c h1 h2 => kz c (by omega) h2)).cds⟩
theorem five_of {a : List Int} (h : a.length = 5) : ∃ a0 a1 a2 a3 a4, a = [a0, a1, a2, a3, a4] := by
  match a, h with
  | [a0, a1, a2, a3, a4], _ => exact ⟨a0, a1, a2, a3, a4, rfl⟩
theorem Past.fr {G G' : Heap} {N : Nat} {x : Value} (h : Past G N x) (hn : G.next ≤ G'.next) : Past G' N x := fun c hc => ⟨(h c hc).1, Nat.lt_of_lt_of_le (h c hc).2 hn⟩
theorem ints_w {H G : Heap} {p q z N : Nat} {x : Value} {b l : List Nat} {f : Nat} {P : Jp} {xc xr : Value} (R : Rn H G p x b l f) (hbl : b.length ≤ 2000000) (hq : H.next ≤ q) (hz : H.next ≤ z) (hqz : q ≠ z) (hN : q < N ∧ z < N ∧ N ≤ G.next)
    (V : Vr G q 29 11 (jobC (P.jb xc xr (.slice none 0 0)))) (Z : Vr G z 29 11 zer11) (tc : Twos G xc P.cells) (oc : Past G N xc) (tr : Twos G xr P.reds) (or : Past G N xr)
    {Q : Post} {t : Tm} (t0 : t 0 = ptr p) (t2 : t 2 = ptr z) (t4 : t 4 = ptr q) (hQ : FinJ H p z x b (tLs P l f) Q) : wpA Tryz.prog K52_6 Q t (rdy G) := by
  have hpN : p < H.next := R.hp
  have hRn := R.next
  have hqp : q ≠ p := by omega
  have hzp : z ≠ p := by omega
  obtain ⟨v, G1, T1, R0, own, vn⟩ := ints_T R.self hbl
  have R1 := R.trans R0
  have n1 := R0.next
  have hqG := R.wf.lt V.bq
  have hzG := R.wf.lt Z.bq
  have V1 := V.keep R0.base (R0.same q hqG (by simpa using hqp))
  have Z1 := Z.keep R0.base (R0.same z hzG (by simpa using hzp))
  have k1 : ∀ c, N ≤ c → c < G.next → G1.blk c = G.blk c := fun c h1 h2 => R0.same c h2 (by simp; omega)
  have tc1 := Twos.frm tc R0.base (fun c hc => k1 c (oc c hc).1 (oc c hc).2)
  have tr1 := Twos.frm tr R0.base (fun c hc => k1 c (or c hc).1 (or c hc).2)
  have oc1 := oc.fr n1
  have or1 := or.fr n1
  unfold tLs at hQ
  obtain ⟨a, ha⟩ : ∃ a, a = (listS l f).1 := ⟨_, rfl⟩
  obtain ⟨l1, hl1⟩ : ∃ a, a = (listS l f).2.1 := ⟨_, rfl⟩
  obtain ⟨f1, hf1⟩ : ∃ a, a = (listS l f).2.2 := ⟨_, rfl⟩
  have h12 : (listS l f).2 = (l1, f1) := by rw [hl1, hf1]
  rw [← ha, ← hl1, ← hf1, h12] at hQ
  rw [← ha] at own
  rw [← hl1, ← hf1] at R1
  obtain ⟨ya, hy⟩ := own.len
  have lv : sLenL v = some (iv a.length) := by rw [hy]; rfl
  have nv : notTup v = true := by rw [hy]; rfl
  have wV : P.jb xc xr (.slice none 0 0) = ⟨P.words, P.fuel, P.S, P.cells, P.reds, P.codes, xc, xr, .slice none 0 0⟩ := rfl
  by_cases h5 : a.length = 5
  · rw [if_pos h5] at hQ
    obtain ⟨a0, a1, a2, a3, a4, rfl⟩ := five_of h5
    rcases own.2 with ⟨_, h0⟩ | ⟨bk, rest, rfl, hB, hk⟩
    · simp at h0
    have hbk := R1.wf.lt hk
    have hbN := vn bk rfl
    have ldv : ∀ (G' : Heap), G'.base = G1.base → G'.blk bk = G1.blk bk → G'.load ⟨bk, 0, none⟩ = some (iv a0) ∧ G'.load ⟨bk, 1, none⟩ = some (iv a1) ∧ G'.load ⟨bk, 2, none⟩ = some (iv a2) ∧ G'.load ⟨bk, 3, none⟩ = some (iv a3) ∧ G'.load ⟨bk, 4, none⟩ = some (iv a4) := by
      intro G' hb hk'
      have l0 := fun off => load_at (off := off) hB hk
      refine ⟨?_, ?_, ?_, ?_, ?_⟩ <;> (rw [load_frame hb hk', l0]; simp [ci])
    have hne : bk ≠ q := by omega
    obtain ⟨c0, hc0⟩ : ∃ c : List Value, c = jobC (P.jb xc xr (.slice none 0 0)) := ⟨_, rfl⟩
    have hl0 : c0.length = 11 := by rw [hc0]; rfl
    obtain ⟨c1, hc1⟩ : ∃ c, c = c0.set 5 (iv a0) := ⟨_, rfl⟩
    obtain ⟨c2, hc2⟩ : ∃ c, c = c1.set 6 (iv a1) := ⟨_, rfl⟩
    obtain ⟨c3, hc3⟩ : ∃ c, c = c2.set 7 (iv a2) := ⟨_, rfl⟩
    obtain ⟨c4, hc4⟩ : ∃ c, c = c3.set 8 (iv a3) := ⟨_, rfl⟩
    obtain ⟨c5, hc5⟩ : ∃ c, c = c4.set 9 (iv a4) := ⟨_, rfl⟩
    rw [← hc0] at V1
    have s1 := V1.store 5 (iv a0) (by omega)
    rw [← hc1] at s1
    have W1 := V1.put c1
    have L0 := ldv G1 rfl rfl
    have L1 := ldv (G1.put q c1) rfl (by simp [hne])
    obtain ⟨D1, hD1⟩ : ∃ D, D = G1.put q c1 := ⟨_, rfl⟩
    rw [← hD1] at s1 W1 L1
    have s2 := W1.store 6 (iv a1) (by rw [hc1]; simp [hl0])
    rw [← hc2] at s2
    have W2 := W1.put c2
    have L2 := ldv (D1.put q c2) (by rw [hD1]; rfl) (by rw [hD1]; simp [hne])
    obtain ⟨D2, hD2⟩ : ∃ D, D = D1.put q c2 := ⟨_, rfl⟩
    rw [← hD2] at s2 W2 L2
    have s3 := W2.store 7 (iv a2) (by rw [hc2, hc1]; simp [hl0])
    rw [← hc3] at s3
    have W3 := W2.put c3
    have L3 := ldv (D2.put q c3) (by rw [hD2, hD1]; rfl) (by rw [hD2, hD1]; simp [hne])
    obtain ⟨D3, hD3⟩ : ∃ D, D = D2.put q c3 := ⟨_, rfl⟩
    rw [← hD3] at s3 W3 L3
    have s4 := W3.store 8 (iv a3) (by rw [hc3, hc2, hc1]; simp [hl0])
    rw [← hc4] at s4
    have W4 := W3.put c4
    have L4 := ldv (D3.put q c4) (by rw [hD3, hD2, hD1]; rfl) (by rw [hD3, hD2, hD1]; simp [hne])
    obtain ⟨D4, hD4⟩ : ∃ D, D = D3.put q c4 := ⟨_, rfl⟩
    rw [← hD4] at s4 W4 L4
    have s5 := W4.store 9 (iv a4) (by rw [hc4, hc3, hc2, hc1]; simp [hl0])
    rw [← hc5] at s5
    have W5 := W4.put c5
    obtain ⟨D5, hD5⟩ : ∃ D, D = D4.put q c5 := ⟨_, rfl⟩
    rw [← hD5] at s5 W5
    have R5 : Rn H D5 p x b l1 f1 := by rw [hD5, hD4, hD3, hD2, hD1]; exact ((((R1.put hq _).put hq _).put hq _).put hq _).put hq _
    have n5 : D5.next = G1.next := by rw [hD5, hD4, hD3, hD2, hD1]; rfl
    have k5 : ∀ c, c ≠ q → D5.blk c = G1.blk c := fun c hc => by rw [hD5, hD4, hD3, hD2, hD1]; simp [hc]
    have b5 : D5.base = G1.base := by rw [hD5, hD4, hD3, hD2, hD1]; rfl
    have Z5 : Vr D5 z 29 11 zer11 := Z1.keep b5 (k5 z (Ne.symm hqz))
    have hc5' : c5 = jobC (({ P with S := ⟨P.S.kind, a0, a1, a2, a3, a4⟩ } : Jp).jb xc xr (.slice none 0 0)) := by rw [hc5, hc4, hc3, hc2, hc1, hc0]; rfl
    rw [hc5'] at W5
    obtain ⟨l00, l01, l02, l03, l04⟩ := L0
    obtain ⟨l10, l11, l12, l13, l14⟩ := L1
    obtain ⟨l20, l21, l22, l23, l24⟩ := L2
    obtain ⟨l30, l31, l32, l33, l34⟩ := L3
    obtain ⟨l40, l41, l42, l43, l44⟩ := L4
    clear ldv hD1 hD2 hD3 hD4 hD5 hc1 hc2 hc3 hc4 hc5 hc5' W1 W2 W3 W4
    simp [K52_6, t0]
    refine goT_of T1 ?_
    simp [t4, l00, l01, l02, l03, l04, l10, l11, l12, l13, l14, l20, l21, l22, l23, l24, l30, l31, l32, l33, l34, l40, l41, l42, l43, l44, s1, s2, s3, s4, s5]
    exact texts_w (P := { P with S := ⟨P.S.kind, a0, a1, a2, a3, a4⟩ }) R5 hbl hq hz hqz (by omega) W5 Z5 (Twos.frm tc1 b5 (fun c hc => k5 c (by have := (oc c hc).1; omega))) (oc1.fr (by omega)) (Twos.frm tr1 b5 (fun c hc => k5 c (by have := (or c hc).1; omega))) (or1.fr (by omega)) (by simp [t0]) (by simp [t2]) (by simp [t4]) hQ
  · rw [if_neg h5] at hQ
    have h5I : ((a.length : Int) == 5) = false := by simp; omega
    have T2 := fail_S R1.rs
    by_cases hf : f1 = 0
    · rw [if_pos hf] at hQ
      have st := Z1.storeA (m := 11) (by decide) zer11 rfl rfl
      rw [Z1.same] at st
      simp [K52_6, t0]
      refine goT_of T1 ?_
      simp [nv, lv, h5I, t0, h5]
      refine goT_of T2 ?_
      simp [hf, t2, st]
      exact hQ _ _ zer11 (by simp [t2]) (by simp) R1 Z1 rfl (fun h => by cases h)
    · rw [if_neg hf] at hQ
      have hfI : ((f1 : Int) == 0) = false := by simp; omega
      simp [K52_6, t0]
      refine goT_of T1 ?_
      simp [nv, lv, h5I, t0, h5]
      refine goT_of T2 ?_
      simp [hf, hfI]
      exact texts_w R1 hbl hq hz hqz (by omega) V1 Z1 tc1 oc1 tr1 or1 (by simp [t0]) (by simp [t2]) (by simp [t4]) hQ
theorem fuel_w {H G : Heap} {p q z N : Nat} {x : Value} {b l : List Nat} {f : Nat} {P : Jp} {xc xr : Value} (R : Rn H G p x b l f) (hbl : b.length ≤ 2000000) (hq : H.next ≤ q) (hz : H.next ≤ z) (hqz : q ≠ z) (hN : q < N ∧ z < N ∧ N ≤ G.next)
    (V : Vr G q 29 11 (jobC (P.jb xc xr (.slice none 0 0)))) (Z : Vr G z 29 11 zer11) (tc : Twos G xc P.cells) (oc : Past G N xc) (tr : Twos G xr P.reds) (or : Past G N xr)
    {Q : Post} {t : Tm} (t0 : t 0 = ptr p) (t2 : t 2 = ptr z) (t4 : t 4 = ptr q) (hQ : FinJ H p z x b (tFs P l f) Q) : wpA Tryz.prog K52_4 Q t (rdy G) := by
  have hpN : p < H.next := R.hp
  have hRn := R.next
  have hqp : q ≠ p := by omega
  have hzp : z ≠ p := by omega
  unfold tFs at hQ
  have T1 := small_T R.rs
  have R1 := R.step (rdP M31 l f).2.2 (rdP_suf M31 l f)
  obtain ⟨fu, hfu⟩ : ∃ a, a = (rdP M31 l f).1 := ⟨_, rfl⟩
  obtain ⟨l1, hl1⟩ : ∃ a, a = (rdP M31 l f).2.1 := ⟨_, rfl⟩
  obtain ⟨f1, hf1⟩ : ∃ a, a = (rdP M31 l f).2.2 := ⟨_, rfl⟩
  rw [← hfu, ← hl1, ← hf1] at T1 hQ
  rw [← hl1, ← hf1] at R1
  obtain ⟨c0, hc0⟩ : ∃ c : List Value, c = jobC (P.jb xc xr (.slice none 0 0)) := ⟨_, rfl⟩
  have hl0 : c0.length = 11 := by rw [hc0]; rfl
  rw [← hc0] at V
  obtain ⟨G1, hG1⟩ : ∃ D, D = G.put p (rsC x b l1 f1) := ⟨_, rfl⟩
  have V1 : Vr G1 q 29 11 c0 := by rw [hG1]; exact V.beside hqp _
  rw [← hG1] at T1 R1
  have s1 := V1.store 3 (iv fu) (by omega)
  obtain ⟨c1, hc1⟩ : ∃ c, c = c0.set 3 (iv fu) := ⟨_, rfl⟩
  rw [← hc1] at s1
  have W1 := V1.put c1
  have R2 := R1.put hq c1
  obtain ⟨G2, hG2⟩ : ∃ D, D = G1.put q c1 := ⟨_, rfl⟩
  rw [← hG2] at s1 W1 R2
  have T2 := small_T R2.rs
  have R3 := R2.step (rdP M31 l1 f1).2.2 (rdP_suf M31 l1 f1)
  obtain ⟨kd, hkd⟩ : ∃ a, a = (rdP M31 l1 f1).1 := ⟨_, rfl⟩
  obtain ⟨l2, hl2⟩ : ∃ a, a = (rdP M31 l1 f1).2.1 := ⟨_, rfl⟩
  obtain ⟨f2, hf2⟩ : ∃ a, a = (rdP M31 l1 f1).2.2 := ⟨_, rfl⟩
  rw [← hkd, ← hl2, ← hf2] at T2 hQ
  rw [← hl2, ← hf2] at R3
  obtain ⟨G3, hG3⟩ : ∃ D, D = G2.put p (rsC x b l2 f2) := ⟨_, rfl⟩
  have W3 : Vr G3 q 29 11 c1 := by rw [hG3]; exact W1.beside hqp _
  rw [← hG3] at T2 R3
  have s3 := W3.store 4 (iv kd) (by rw [hc1]; simp [hl0])
  obtain ⟨c2, hc2⟩ : ∃ c, c = c1.set 4 (iv kd) := ⟨_, rfl⟩
  rw [← hc2] at s3
  have W4 := W3.put c2
  have R4 := R3.put hq c2
  obtain ⟨G4, hG4⟩ : ∃ D, D = G3.put q c2 := ⟨_, rfl⟩
  rw [← hG4] at s3 W4 R4
  have hb : G4.base = G.base := by rw [hG4, hG3, hG2, hG1]; rfl
  have hn : G4.next = G.next := by rw [hG4, hG3, hG2, hG1]; rfl
  have hk : ∀ c, c ≠ p → c ≠ q → G4.blk c = G.blk c := fun c h1 h2 => by rw [hG4, hG3, hG2, hG1]; simp [h1, h2]
  have hc2' : c2 = jobC (({ P with fuel := (fu : Int), S := { P.S with kind := (kd : Int) } } : Jp).jb xc xr (.slice none 0 0)) := by rw [hc2, hc1, hc0]; rfl
  rw [hc2'] at W4
  simp [K52_4, t0]
  refine goT_of T1 ?_
  simp [t4, s1, K52_5, t0]
  refine goT_of T2 ?_
  simp [t4, s3]
  exact ints_w (P := { P with fuel := (fu : Int), S := { P.S with kind := (kd : Int) } }) R4 hbl hq hz hqz (by omega) W4 (Z.keep hb (hk z hzp (Ne.symm hqz)))
    (Twos.frm tc hb (fun c hc => by have := (oc c hc).1; exact hk c (by omega) (by omega))) (oc.fr (by omega)) (Twos.frm tr hb (fun c hc => by have := (or c hc).1; exact hk c (by omega) (by omega))) (or.fr (by omega)) (by simp [t0]) (by simp [t2]) (by simp [t4]) hQ
theorem reds_w {H G : Heap} {p q z N : Nat} {x : Value} {b l : List Nat} {f : Nat} {P : Jp} {xc : Value} (R : Rn H G p x b l f) (hbl : b.length ≤ 2000000) (hq : H.next ≤ q) (hz : H.next ≤ z) (hqz : q ≠ z) (hN : q < N ∧ z < N ∧ N ≤ G.next)
    (V : Vr G q 29 11 (jobC (P.jb xc (.slice none 0 0) (.slice none 0 0)))) (Z : Vr G z 29 11 zer11) (tc : Twos G xc P.cells) (oc : Past G N xc)
    {Q : Post} {t : Tm} (t0 : t 0 = ptr p) (t2 : t 2 = ptr z) (t4 : t 4 = ptr q) (hQ : FinJ H p z x b (tRs P l f) Q) : wpA Tryz.prog K52_3 Q t (rdy G) := by
  have hpN : p < H.next := R.hp
  have hRn := R.next
  have hqp : q ≠ p := by omega
  have hzp : z ≠ p := by omega
  unfold tRs rowS2 at hQ
  have T1 := rcount_T R.rs 2 (by unfold okI2; omega)
  have R1 := R.step (countS l f 2).2.2 (countS_suf l f 2)
  have hsm : (countS l f 2).1 ≤ 2000000 := Nat.le_trans count_small (Nat.le_trans R.rs.suf.length_le hbl)
  obtain ⟨n, hn⟩ : ∃ n, n = (countS l f 2).1 := ⟨_, rfl⟩
  obtain ⟨l1, hl1⟩ : ∃ l1, l1 = (countS l f 2).2.1 := ⟨_, rfl⟩
  obtain ⟨f1, hf1⟩ : ∃ f1, f1 = (countS l f 2).2.2 := ⟨_, rfl⟩
  rw [← hn, ← hl1, ← hf1] at T1 hQ
  rw [← hl1, ← hf1] at R1
  rw [← hn] at hsm
  obtain ⟨G1, hG1⟩ : ∃ G1, G1 = G.put p (rsC x b l1 f1) := ⟨_, rfl⟩
  rw [← hG1] at T1 R1
  have n1 : G1.next = G.next := by rw [hG1]; rfl
  have V1 : Vr G1 q 29 11 (jobC (P.jb xc (.slice none 0 0) (.slice none 0 0))) := by rw [hG1]; exact V.beside hqp _
  have Z1 : Vr G1 z 29 11 zer11 := by rw [hG1]; exact Z.beside hzp _
  have b1 : G1.base = G.base := by rw [hG1]; rfl
  have tc1 := Twos.frm tc b1 (fun c hc => by have := (oc c hc).1; rw [hG1]; simp [show c ≠ p by omega])
  simp [K52_3, t0]
  refine goT_of T1 ?_
  simp
  refine redsT R1 hq V1 rfl rfl hsm (by simp [t0]) (by simp [t4]) (by simp) (by simp) ?_
  intro t' G' xr u0 u2 u4 R' V' tr' or' hn' sm'
  simp [t2] at u2
  have hz1 := R1.wf.lt Z1.bq
  have k' : ∀ c, c < G1.next → c ≠ p → c ≠ q → G'.blk c = G1.blk c := fun c h1 h2 h3 => sm' c h1 (by simp [h2, h3])
  have bb : G'.base = G1.base := R'.base.trans R1.base.symm
  simp
  exact fuel_w (P := { P with reds := (cellsS n l1 f1 []).1 }) R' hbl hq hz hqz (by omega) V' (Z1.keep bb (k' z hz1 hzp (Ne.symm hqz)))
    (Twos.frm tc1 bb (fun c hc => by have := oc c hc; exact k' c (by omega) (by omega) (by omega))) (oc.fr (by omega)) tr' (fun c hc => ⟨by have := or' c hc; omega, (or' c hc).2⟩) u0 u2 u4 hQ
theorem cells_w {H G : Heap} {p q z : Nat} {x : Value} {b l : List Nat} {f : Nat} {P : Jp} (R : Rn H G p x b l f) (hbl : b.length ≤ 2000000) (hq : H.next ≤ q) (hz : H.next ≤ z) (hqz : q ≠ z)
    (V : Vr G q 29 11 (jobC (P.jb (.slice none 0 0) (.slice none 0 0) (.slice none 0 0)))) (Z : Vr G z 29 11 zer11)
    {Q : Post} {t : Tm} (t0 : t 0 = ptr p) (t2 : t 2 = ptr z) (t4 : t 4 = ptr q) (hQ : FinJ H p z x b (tCs P l f) Q) : wpA Tryz.prog K52_2 Q t (rdy G) := by
  have hpN : p < H.next := R.hp
  have hRn := R.next
  have hqp : q ≠ p := by omega
  have hzp : z ≠ p := by omega
  unfold tCs rowS2 at hQ
  have T1 := rcount_T R.rs 2 (by unfold okI2; omega)
  have R1 := R.step (countS l f 2).2.2 (countS_suf l f 2)
  have hsm : (countS l f 2).1 ≤ 2000000 := Nat.le_trans count_small (Nat.le_trans R.rs.suf.length_le hbl)
  obtain ⟨n, hn⟩ : ∃ n, n = (countS l f 2).1 := ⟨_, rfl⟩
  obtain ⟨l1, hl1⟩ : ∃ l1, l1 = (countS l f 2).2.1 := ⟨_, rfl⟩
  obtain ⟨f1, hf1⟩ : ∃ f1, f1 = (countS l f 2).2.2 := ⟨_, rfl⟩
  rw [← hn, ← hl1, ← hf1] at T1 hQ
  rw [← hl1, ← hf1] at R1
  rw [← hn] at hsm
  obtain ⟨G1, hG1⟩ : ∃ G1, G1 = G.put p (rsC x b l1 f1) := ⟨_, rfl⟩
  rw [← hG1] at T1 R1
  have n1 : G1.next = G.next := by rw [hG1]; rfl
  have V1 : Vr G1 q 29 11 (jobC (P.jb (.slice none 0 0) (.slice none 0 0) (.slice none 0 0))) := by rw [hG1]; exact V.beside hqp _
  have Z1 : Vr G1 z 29 11 zer11 := by rw [hG1]; exact Z.beside hzp _
  simp [K52_2, t0]
  refine goT_of T1 ?_
  simp
  refine cellsT R1 hq V1 rfl rfl hsm (by simp [t0]) (by simp [t4]) (by simp) (by simp) ?_
  intro t' G' xc u0 u2 u4 R' V' tc' oc' hn' sm'
  simp [t2] at u2
  have hz1 := R1.wf.lt Z1.bq
  have hq1 := R1.wf.lt V1.bq
  have bb : G'.base = G1.base := R'.base.trans R1.base.symm
  simp
  exact reds_w (N := G1.next) (P := { P with cells := (cellsS n l1 f1 []).1 }) R' hbl hq hz hqz ⟨hq1, hz1, hn'⟩ V' (Z1.keep bb (sm' z hz1 (by simp [hzp, Ne.symm hqz]))) tc' oc' u0 u2 u4 hQ
def JobQ (N : Nat) (G : Heap) (r : Int × Jp × List Nat × Nat) (cs : List Value) : Prop :=
  cs.length = 11 ∧ (r.1 = 0 → ∃ xc xr xk, cs = jobC (r.2.1.jb xc xr xk) ∧ JrF N G r.2.1 xc xr xk)
theorem takeJob_T {H : Heap} {p : Nat} {x : Value} {b l : List Nat} {f : Nat} (R : Rn H H p x b l f) (hbl : b.length ≤ 2000000) :
    ∃ v G, T Tryz.prog 52 [ptr p] H v G ∧ ∃ cs, v = .tuple #[.agg cs.toArray, iv (jobS l f).1] ∧ Rn H G p x b (jobS l f).2.2.1 (jobS l f).2.2.2 ∧ JobQ H.next G (jobS l f) cs := by
  refine T_by hm light52 ?_
  rw [L52_eq]
  have hw := R.wf
  have hpN : p < H.next := R.hp
  have Z0 : Vr (H.new 29 11 zer11) H.next 29 11 zer11 := Vr.mk' hw _ _ _
  have R0 : Rn H (H.new 29 11 zer11) p x b l f := R.new _ _ _
  obtain ⟨G0, hG0⟩ : ∃ G0, G0 = H.new 29 11 zer11 := ⟨_, rfl⟩
  have n0 : G0.next = H.next + 1 := by rw [hG0]; rfl
  have hG02 : H.new 29 11 [.int .i64 0, .slice none 0 0, .slice none 0 0, .int .i64 0, .int .i64 0, .int .i64 0, .int .i64 0, .int .i64 0, .int .i64 0, .int .i64 0, .slice none 0 0] = G0 := hG0.symm
  rw [← hG0] at Z0 R0
  have T1 := small_T R0.rs
  have R1 := R0.step (rdP M31 l f).2.2 (rdP_suf M31 l f)
  unfold jobS
  obtain ⟨w, hw'⟩ : ∃ a, a = (rdP M31 l f).1 := ⟨_, rfl⟩
  obtain ⟨l1, hl1⟩ : ∃ a, a = (rdP M31 l f).2.1 := ⟨_, rfl⟩
  obtain ⟨f1, hf1⟩ : ∃ a, a = (rdP M31 l f).2.2 := ⟨_, rfl⟩
  rw [← hw', ← hl1, ← hf1] at T1 ⊢
  rw [← hl1, ← hf1] at R1
  obtain ⟨G1, hG1⟩ : ∃ D, D = G0.put p (rsC x b l1 f1) := ⟨_, rfl⟩
  have n1 : G1.next = H.next + 1 := by rw [hG1]; exact n0
  have Z1 : Vr G1 H.next 29 11 zer11 := by rw [hG1]; exact Z0.beside (by omega) _
  rw [← hG1] at T1 R1
  have st := new_storeA R1.wf 29 11 zer11 (jobC ((jp0 w).jb (.slice none 0 0) (.slice none 0 0) (.slice none 0 0))) rfl rfl (by decide)
  rw [n1] at st
  have V2 : Vr (G1.new 29 11 (jobC ((jp0 w).jb (.slice none 0 0) (.slice none 0 0) (.slice none 0 0)))) (H.next + 1) 29 11 (jobC ((jp0 w).jb (.slice none 0 0) (.slice none 0 0) (.slice none 0 0))) := by rw [← n1]; exact Vr.mk' R1.wf _ _ _
  have R2 := R1.new 29 11 (jobC ((jp0 w).jb (.slice none 0 0) (.slice none 0 0) (.slice none 0 0)))
  have Z2 := Z1.new R1.wf 29 11 (jobC ((jp0 w).jb (.slice none 0 0) (.slice none 0 0) (.slice none 0 0)))
  obtain ⟨G2, hG2⟩ : ∃ D, D = G1.new 29 11 (jobC ((jp0 w).jb (.slice none 0 0) (.slice none 0 0) (.slice none 0 0))) := ⟨_, rfl⟩
  rw [← hG2] at st V2 R2 Z2
  have st' : sStore (G1.new 29 11 [.int .i64 0, .slice none 0 0, .slice none 0 0, .int .i64 0, .int .i64 0, .int .i64 0, .int .i64 0, .int .i64 0, .int .i64 0, .int .i64 0, .slice none 0 0]) 11 (.pointer (some ⟨H.next + 1, 0, none⟩)) (.agg #[.int .i64 (w : Int), .slice none 0 0, .slice none 0 0, .int .i64 0, .int .i64 0, .int .i64 0, .int .i64 0, .int .i64 0, .int .i64 0, .int .i64 0, .slice none 0 0]) = some G2 := st
  simp [K52_0, hG02, K52_1]
  refine goT_of T1 ?_
  simp [n1, st']
  refine cells_w (z := H.next) (q := H.next + 1) (P := jp0 w) R2 hbl (by omega) (Nat.le_refl _) (by omega) V2 Z2 (by simp) (by simp) (by simp) ?_
  intro t' G' cs u2 u3 R' Z' hl hj
  have ld := Z'.loadA (m := 11) hl
  simp [u2, u3, ld]
  exact ⟨R', hl, hj⟩
end Go.Proofs.YtnomffikflfilaaGreat.E8
namespace Go.Proofs.YtnomffikflfilaaGreat.E8
open I8
open Go.Ot Go.RowKit
open R14 (ci Twos)
set_option linter.unusedSimpArgs false
set_option linter.unusedVariables false
set_option maxRecDepth 100000
def rowE (l : List Nat) (f : Nat) : Nat × Ent × List Nat × Nat :=
  ((rdP M31 l f).1, ((iS (rdP M31 l f).2.1 (rdP M31 l f).2.2).1, (flagS (iS (rdP M31 l f).2.1 (rdP M31 l f).2.2).2.1 (iS (rdP M31 l f).2.1 (rdP M31 l f).2.2).2.2).1), (flagS (iS (rdP M31 l f).2.1 (rdP M31 l f).2.2).2.1 (iS (rdP M31 l f).2.1 (rdP M31 l f).2.2).2.2).2)
def entGo (n : Nat) : Nat → List Nat → Nat → List Ent → Int × List Ent × List Nat × Nat
  | 0, l, f, acc => ((f : Int), acc, l, f)
  | k + 1, l, f, acc =>
    if acc.length < n ∧ f = 0 then
      if (rowE l f).1 < 1 ∨ n - acc.length < (rowE l f).1 then (if (rowE l f).2.2.2 ≠ 0 then (((rowE l f).2.2.2 : Int), [], (rowE l f).2.2) else (260, [], (rowE l f).2.2))
      else entGo n k (rowE l f).2.2.1 (rowE l f).2.2.2 (acc ++ List.replicate (rowE l f).1 (rowE l f).2.1)
    else ((f : Int), acc, l, f)
def entS (l : List Nat) (f : Nat) : Int × List Ent × List Nat × Nat :=
  if 40000 < (rdP M31 l f).1 then (251, [], (rdP M31 l f).2) else entGo (rdP M31 l f).1 ((rdP M31 l f).1 + 1) (rdP M31 l f).2.1 (rdP M31 l f).2.2 []
theorem flagS_suf (l : List Nat) (f : Nat) : (flagS l f).2.1 <:+ l := by
  unfold flagS; split <;> exact nxS_suf l f
def InvE1 (H : Heap) (p qe : Nat) (x : Value) (b l : List Nat) (f : Nat) (e : Ent) (acc : List Ent) (m : Nat) (tt : Tm) (k : Nat) (t : Tm) (G : Heap) : Prop :=
  ∃ (i : Nat) (y : Value), i + k = m ∧ t 0 = tt 0 ∧ t 4 = tt 4 ∧ t 5 = y ∧ t 7 = ptr qe ∧ t 44 = iv m ∧ t 45 = iv i ∧ Rn H G p x b l f ∧ Vr G qe 62 2 (erow e) ∧ Own G 62 2 (acc.length + i) (ec (acc ++ List.replicate i e)) y ∧ (∀ c, blkOf y = some c → H.next ≤ c ∧ c ≠ qe)
theorem many_w {H G : Heap} {p qe : Nat} {x y : Value} {b l : List Nat} {f : Nat} {e : Ent} {acc : List Ent} {m : Nat} (R : Rn H G p x b l f) (V : Vr G qe 62 2 (erow e)) (own : Own G 62 2 acc.length (ec acc) y) (yn : ∀ c, blkOf y = some c → H.next ≤ c ∧ c ≠ qe) (hm : acc.length + m ≤ 50000)
    {Q : Post} {t : Tm} (t5 : t 5 = y) (t7 : t 7 = ptr qe) (t44 : t 44 = iv m) (t45 : t 45 = iv 0)
    (hE : ∀ (t' : Tm) (G' : Heap) (y' : Value), t' 0 = t 0 → t' 4 = t 4 → t' 5 = y' → Rn H G' p x b l f → Own G' 62 2 (acc ++ List.replicate m e).length (ec (acc ++ List.replicate m e)) y' → (∀ c, blkOf y' = some c → H.next ≤ c) → Q (.exit 2) t' (rdy G')) : wpA Tryz.prog (.loop L56_1) Q t (rdy G) := by
  refine loop_at (InvE1 H p qe x b l f e acc m t) m ?_ ?_
  · exact ⟨0, y, by omega, rfl, rfl, t5, t7, t44, t45, R, V, by simpa using own, yn⟩
  rintro k t1 G1 ⟨i, y1, hik, u0, u4, u5, u7, u44, u45, R1, V1, own1, yn1⟩
  cases k with
  | zero =>
    have ei : i = m := by omega
    subst ei
    simp [L56_1, u44, u45]
    exact hE _ _ y1 (by simp [u0]) (by simp [u4]) (by simp [u5]) R1 (by simpa using own1) (fun c hc => (yn1 c hc).1)
  | succ k =>
    have hi : i < m := by omega
    have hiI : (i : Int) < (m : Int) := by omega
    have e4 : IntKind.i64.wrap ((i : Int) + 1) = ((i + 1 : Nat) : Int) := by rw [w64 _ (by omega)]; omega
    obtain ⟨iN, hiN⟩ : ∃ z : Nat, z = i + 1 := ⟨_, rfl⟩
    rw [← hiN] at e4
    have ld : G1.loadN ⟨qe, 0, none⟩ 0 2 = some [iv e.1, .bool e.2] := V1.loadA (m := 2) rfl
    obtain ⟨a, GA, ap, RA, oA, nA, kA, mA⟩ := pushR (bytes := 16) R1 own1 (fun c hc => (yn1 c hc).1) (erow e) rfl (by decide) (by omega)
    have hyq : blkOf y1 ≠ some qe := fun h => (yn1 qe h).2 rfl
    have VA : Vr GA qe 62 2 (erow e) := V1.keep (RA.base.trans R1.base.symm) (kA qe (R1.wf.lt V1.bq) hyq)
    obtain ⟨s, hs⟩ : ∃ s, s = Value.slice (some a) (acc.length + i + 1) 0 := ⟨_, rfl⟩
    rw [← hs] at ap oA nA
    have hqe := R1.wf.lt V1.bq
    have z2 : zerosA [iv 0, .bool false] 2 = [iv 0, .bool false] := rfl
    have ap' : sAppend (G1.new 62 2 [iv e.1, .bool e.2]) 62 2 16 y1 (.slice (some ⟨G1.next, 0, none⟩) 1 0) = some (s, GA) := ap
    simp [L56_1, u44, u45, hiI, hi, u5, u7, ld, z2, ap', e4]
    refine ⟨k, by omega, iN, s, by omega, by simp [u0], by simp [u4], by simp, by simp [u7], by simp [u44], by simp, RA, VA, ?_, fun c hc => by have := nA c hc; have := R1.next; exact ⟨by omega, by omega⟩⟩
    have er : acc ++ List.replicate iN e = acc ++ List.replicate i e ++ [e] := by rw [hiN, List.replicate_succ', List.append_assoc]
    rw [er, ec_append]
    have e2 : acc.length + iN = acc.length + i + 1 := by omega
    rw [e2]
    have oA2 : Own GA 62 2 (acc.length + i + 1) (ec (acc ++ List.replicate i e) ++ ec [e]) s := by simpa [ec] using oA
    exact oA2
def InvE2 (H : Heap) (p : Nat) (x : Value) (b : List Nat) (n : Nat) (want : Int × List Ent × List Nat × Nat) (k : Nat) (t : Tm) (G : Heap) : Prop :=
  ∃ (l : List Nat) (f : Nat) (acc : List Ent) (y : Value), acc.length ≤ n ∧ n + 1 ≤ acc.length + k ∧ t 0 = ptr p ∧ t 4 = iv n ∧ t 5 = y ∧ Rn H G p x b l f ∧ Own G 62 2 acc.length (ec acc) y ∧ (∀ c, blkOf y = some c → H.next ≤ c) ∧ entGo n k l f acc = want
structure EntQ (H G : Heap) (p : Nat) (x : Value) (b : List Nat) (r : Int × List Ent × List Nat × Nat) (y : Value) : Prop where
  rn : Rn H G p x b r.2.2.1 r.2.2.2
  own : Own G 62 2 r.2.1.length (ec r.2.1) y
  new : ∀ c, blkOf y = some c → H.next ≤ c
theorem takeEntries_T {H : Heap} {p : Nat} {x : Value} {b l : List Nat} {f : Nat} (R : Rn H H p x b l f) :
    ∃ v G, T Tryz.prog 56 [ptr p] H v G ∧ ∃ y, v = .tuple #[y, iv (entS l f).1] ∧ EntQ H G p x b (entS l f) y := by
  refine T_by hm light56 ?_
  have nilO : ∀ G : Heap, Own G 62 2 ([] : List Ent).length (ec []) (.slice none 0 0) := fun G => by simpa [ec] using Own.nil G 62 2
  have T1 := small_T R.rs
  have R1 := R.step (rdP M31 l f).2.2 (rdP_suf M31 l f)
  have hle := rdP_le M31 l f
  unfold entS
  obtain ⟨n, hn⟩ : ∃ a, a = (rdP M31 l f).1 := ⟨_, rfl⟩
  obtain ⟨l1, hl1⟩ : ∃ a, a = (rdP M31 l f).2.1 := ⟨_, rfl⟩
  obtain ⟨f1, hf1⟩ : ∃ a, a = (rdP M31 l f).2.2 := ⟨_, rfl⟩
  have h12 : (rdP M31 l f).2 = (l1, f1) := by rw [hl1, hf1]
  rw [← hn, ← hl1, ← hf1] at T1 ⊢
  rw [h12]
  rw [← hl1, ← hf1] at R1
  rw [← hn] at hle
  obtain ⟨G1, hG1⟩ : ∃ D, D = H.put p (rsC x b l1 f1) := ⟨_, rfl⟩
  rw [← hG1] at T1 R1
  by_cases hbig : 40000 < n
  · have hbI : (40000 : Int) < (n : Int) := by omega
    rw [if_pos hbig]
    simp [L56]
    refine goT_of T1 ?_
    simp [hbig, hbI]
    exact ⟨R1, nilO G1, fun c hc => by cases hc⟩
  rw [if_neg hbig]
  have hbI : ¬ (40000 : Int) < (n : Int) := by omega
  obtain ⟨want, hwant⟩ : ∃ w, w = entGo n (n + 1) l1 f1 [] := ⟨_, rfl⟩
  rw [← hwant]
  simp [L56]
  refine goT_of T1 ?_
  simp [hbig, hbI]
  refine loop_at (InvE2 H p x b n want) (n + 1) ?_ ?_
  · exact ⟨l1, f1, [], .slice none 0 0, by simp, by simp, by simp, by simp, by simp, R1, nilO G1, (fun c hc => by cases hc), hwant.symm⟩
  rintro k t G ⟨l2, f2, acc, y, hal, hk, t0, t4, t5, R2, own, yn, hw⟩
  obtain ⟨ya, hy⟩ := own.len
  have ly : sLenL y = some (iv acc.length) := by rw [hy]; rfl
  have ny : notTup y = true := by rw [hy]; rfl
  have T2 := fail_S R2.rs
  cases k with
  | zero => omega
  | succ k =>
    rw [show entGo n (k + 1) l2 f2 acc = if acc.length < n ∧ f2 = 0 then
      if (rowE l2 f2).1 < 1 ∨ n - acc.length < (rowE l2 f2).1 then (if (rowE l2 f2).2.2.2 ≠ 0 then (((rowE l2 f2).2.2.2 : Int), [], (rowE l2 f2).2.2) else (260, [], (rowE l2 f2).2.2))
      else entGo n k (rowE l2 f2).2.2.1 (rowE l2 f2).2.2.2 (acc ++ List.replicate (rowE l2 f2).1 (rowE l2 f2).2.1)
      else ((f2 : Int), acc, l2, f2) from rfl] at hw
    by_cases hgo : acc.length < n ∧ f2 = 0
    case neg =>
      rw [if_neg hgo] at hw
      subst hw
      by_cases h1 : acc.length < n
      · have h1I : (acc.length : Int) < (n : Int) := by omega
        have h2 : f2 ≠ 0 := fun h => hgo ⟨h1, h⟩
        have h2I : ((f2 : Int) == 0) = false := by simp; omega
        simp [L56_2, t5, ly, t4, h1, h1I, t0]
        refine goT_of T2 ?_
        simp [h2, h2I, t5, t0]
        refine goT_of T2 ?_
        simp [ny]
        exact ⟨R2, own, yn⟩
      · have h1I : ¬ (acc.length : Int) < (n : Int) := by omega
        simp [L56_2, t5, ly, t4, h1, h1I, t0]
        refine goT_of T2 ?_
        simp [ny]
        exact ⟨R2, own, yn⟩
    rw [if_pos hgo] at hw
    obtain ⟨h1, rfl⟩ := hgo
    have h1I : (acc.length : Int) < (n : Int) := by omega
    have T3 := small_T R2.rs
    have R3 := R2.step (rdP M31 l2 0).2.2 (rdP_suf M31 l2 0)
    have hml := rdP_le M31 l2 0
    unfold rowE at hw
    obtain ⟨m, hm'⟩ : ∃ a, a = (rdP M31 l2 0).1 := ⟨_, rfl⟩
    obtain ⟨l3, hl3⟩ : ∃ a, a = (rdP M31 l2 0).2.1 := ⟨_, rfl⟩
    obtain ⟨f3, hf3⟩ : ∃ a, a = (rdP M31 l2 0).2.2 := ⟨_, rfl⟩
    rw [← hm', ← hl3, ← hf3] at T3 hw
    rw [← hl3, ← hf3] at R3
    rw [← hm'] at hml
    obtain ⟨G3, hG3⟩ : ∃ D, D = G.put p (rsC x b l3 f3) := ⟨_, rfl⟩
    rw [← hG3] at T3 R3
    have T4 := rint_T R3.rs
    have R4 := R3.step (iS l3 f3).2.2 (iS_suf l3 f3)
    obtain ⟨w, hw'⟩ : ∃ a, a = (iS l3 f3).1 := ⟨_, rfl⟩
    obtain ⟨l4, hl4⟩ : ∃ a, a = (iS l3 f3).2.1 := ⟨_, rfl⟩
    obtain ⟨f4, hf4⟩ : ∃ a, a = (iS l3 f3).2.2 := ⟨_, rfl⟩
    rw [← hw', ← hl4, ← hf4] at T4 hw
    rw [← hl4, ← hf4] at R4
    obtain ⟨G4, hG4⟩ : ∃ D, D = G3.put p (rsC x b l4 f4) := ⟨_, rfl⟩
    rw [← hG4] at T4 R4
    have T5 := rflag_T R4.rs
    have R5 := R4.step (flagS l4 f4).2.2 (flagS_suf l4 f4)
    obtain ⟨ab, hab⟩ : ∃ a, a = (flagS l4 f4).1 := ⟨_, rfl⟩
    obtain ⟨l5, hl5⟩ : ∃ a, a = (flagS l4 f4).2.1 := ⟨_, rfl⟩
    obtain ⟨f5, hf5⟩ : ∃ a, a = (flagS l4 f4).2.2 := ⟨_, rfl⟩
    have h52 : (flagS l4 f4).2 = (l5, f5) := by rw [hl5, hf5]
    rw [← hab, ← hl5, ← hf5] at T5
    rw [← hab, h52] at hw
    rw [← hl5, ← hf5] at R5
    obtain ⟨G5, hG5⟩ : ∃ D, D = G4.put p (rsC x b l5 f5) := ⟨_, rfl⟩
    rw [← hG5] at T5 R5
    simp only at hw
    have st := new_storeA R5.wf 62 2 [iv 0, .bool false] (erow (w, ab)) rfl rfl (by decide)
    have V6 : Vr (G5.new 62 2 (erow (w, ab))) G5.next 62 2 (erow (w, ab)) := Vr.mk' R5.wf _ _ _
    have R6 := R5.new 62 2 (erow (w, ab))
    have n5 : G5.next = G.next := by rw [hG5, hG4, hG3]; rfl
    have hpp := R.hp
    have hnx := R2.next
    have own6 : Own (G5.new 62 2 (erow (w, ab))) 62 2 acc.length (ec acc) y := own.keep (B_eq (by rw [hG5, hG4, hG3]; rfl)) (fun c hc => by
      have h1 := yn c hc
      have h2 := own.lt R2.wf hc
      simp only [blk_new]
      rw [if_neg (by omega), hG5, hG4, hG3]; simp [show c ≠ p by omega])
    obtain ⟨G6, hG6⟩ : ∃ D, D = G5.new 62 2 (erow (w, ab)) := ⟨_, rfl⟩
    rw [← hG6] at st V6 R6 own6
    have st' : sStore (G5.new 62 2 [.int .i64 0, .bool false]) 2 (.pointer (some ⟨G5.next, 0, none⟩)) (.agg #[.int .i64 w, .bool ab]) = some G6 := st
    have T7 := fail_S R6.rs
    have c1 : IntKind.i64.wrap ((n : Int) - (acc.length : Int)) = ((n - acc.length : Nat) : Int) := by rw [w64 _ (by omega)]; omega
    obtain ⟨d, hd⟩ : ∃ d, d = n - acc.length := ⟨_, rfl⟩
    rw [← hd] at c1 hw
    simp [L56_2, t5, ly, t4, h1, h1I, t0]
    refine goT_of T2 ?_
    simp [t0]
    refine goT_of T3 ?_
    simp [t0]
    refine goT_of T4 ?_
    simp [t0]
    refine goT_of T5 ?_
    simp [st']
    by_cases hm1 : m = 0
    · have hm1I : (m : Int) < 1 := by omega
      rw [if_pos (.inl (by omega))] at hw
      by_cases hf : f5 = 0
      · rw [if_neg (by simpa using hf)] at hw
        subst hw
        simp [hm1, hm1I, t0]
        refine goT_of T7 ?_
        simp [hf]
        exact ⟨hf ▸ R6, nilO _, fun c hc => by cases hc⟩
      · rw [if_pos hf] at hw
        subst hw
        have hfI : ((f5 : Int) != 0) = true := by simp [hf]
        simp [hm1, hm1I, t0]
        refine goT_of T7 ?_
        simp [hf, hfI]
        exact ⟨R6, nilO _, fun c hc => by cases hc⟩
    have hm1I : ¬ (m : Int) < 1 := by omega
    by_cases hm2 : d < m
    · have hm2I : (d : Int) < (m : Int) := by omega
      rw [if_pos (.inr hm2)] at hw
      by_cases hf : f5 = 0
      · rw [if_neg (by simpa using hf)] at hw
        subst hw
        simp [hm1, hm1I, t0, t4, t5, ly, c1, hm2, hm2I]
        refine goT_of T7 ?_
        simp [hf]
        exact ⟨hf ▸ R6, nilO _, fun c hc => by cases hc⟩
      · rw [if_pos hf] at hw
        subst hw
        have hfI : ((f5 : Int) != 0) = true := by simp [hf]
        simp [hm1, hm1I, t0, t4, t5, ly, c1, hm2, hm2I]
        refine goT_of T7 ?_
        simp [hf, hfI]
        exact ⟨R6, nilO _, fun c hc => by cases hc⟩
    have hm2I : ¬ (d : Int) < (m : Int) := by omega
    rw [if_neg (by omega)] at hw
    simp [hm1, hm1I, t0, t4, t5, ly, c1, hm2, hm2I]
    refine many_w (e := (w, ab)) (acc := acc) R6 V6 own6 (fun c hc => ⟨yn c hc, by have := own.lt R2.wf hc; omega⟩) (m := m) (by omega) (by simp [t5]) (by simp) (by simp) (by simp) ?_
    intro t' G' y' u0 u4 u5 R' own' yn'
    simp [t0] at u0
    simp [t4] at u4
    simp
    exact ⟨k, by omega, l5, f5, acc ++ List.replicate m (w, ab), y', by simp; omega, by simp; omega, u0, u4, u5, R', own', yn', hw⟩
end Go.Proofs.YtnomffikflfilaaGreat.E8
namespace Go.Proofs.YtnomffikflfilaaGreat.E8
open I8
open Go.Ot Go.RowKit
open R14 (ci Twos)
set_option linter.unusedSimpArgs false
set_option linter.unusedVariables false
set_option maxRecDepth 100000
def fitF (P : Program) : List Field → List Value → Nat → Bool
  | [], _, _ => true
  | f :: fs, v :: vs, i => decide (f.name ≠ "_") && Nat.beq f.offset i && P.plainKey f.type && (match v, P.underlying f.type with | .int .i64 _, some (.int .i64) => true | .bool _, some .bool => true | _, _ => false) && fitF P fs vs (i + 1)
  | _ :: _, [], _ => false
theorem fit_run (w : World) : ∀ {fs : List Field} {vs pre : List Value} {xs : Array Value}, xs.toList = pre ++ vs → fitF Tryz.prog fs vs pre.length = true → (Op.eqFields 9999 xs xs fs).run Tryz.prog w = .ok true w
  | [], _, _, _, _, _ => rfl
  | f :: fs, [], pre, xs, hx, h => by cases h
  | f :: fs, v :: vs, pre, xs, hx, h => by
    simp only [fitF, Bool.and_eq_true, decide_eq_true_eq] at h
    obtain ⟨⟨⟨⟨h1, h2⟩, h3⟩, h4⟩, h5⟩ := h
    have h2 : f.offset = pre.length := by simpa using h2
    have ih := fit_run w (fs := fs) (vs := vs) (pre := pre ++ [v]) (xs := xs) (by rw [hx]; simp) (by rw [List.length_append]; exact h5)
    have hg : xs[f.offset]? = some v := by
      rw [h2, ← Array.getElem?_toList, hx]
      simp
    split at h4
    · rename_i n hu
      rw [stepG w h1 h3 hu hg hg, if_pos rfl, ih]
    · rename_i n hu
      rw [stepB w h1 h3 hu hg hg, if_pos rfl, ih]
    · cases h4
theorem eqSelf {t : TypeId} {vs : List Value} {fs : Array Field} (hu : Tryz.prog.underlying t = some (.struct fs)) (hst : Tryz.prog.stoodInHeld t = false) (hf : fitF Tryz.prog fs.toList vs 0 = true) (w : World) :
    (Op.equal t (.agg vs.toArray) (.agg vs.toArray)).run Tryz.prog w = .ok true w := by
  have hd : Op.equal t (.agg vs.toArray) (.agg vs.toArray) = Op.equalIn (9999 + 1) t (.agg vs.toArray) (.agg vs.toArray) := rfl
  have hf2 : Tryz.prog.fieldsOf t = fs := by simp [Program.fieldsOf, hu]
  rw [hd, run_equalIn_struct w 9999 t _ _ (by rw [hf2]; exact hu) hst, hf2]
  exact fit_run w (pre := []) (by simp) hf
theorem eq98 (a : Int × Int) (w : World) : (Op.equal 98 (.agg [iv a.1, iv a.2].toArray) (.agg [iv a.1, iv a.2].toArray)).run Tryz.prog w = .ok true w := eqSelf Tryz.underlying98 (by kernel_rfl) (by kernel_rfl) w
theorem eq101 (a : Int × Int) (w : World) : (Op.equal 101 (.agg [iv a.1, iv a.2].toArray) (.agg [iv a.1, iv a.2].toArray)).run Tryz.prog w = .ok true w := eqSelf Tryz.underlying101 (by kernel_rfl) (by kernel_rfl) w
theorem eq113 (a : I8.In) (w : World) : (Op.equal 113 (.agg (I8.rowI a).toArray) (.agg (I8.rowI a).toArray)).run Tryz.prog w = .ok true w := eqSelf Tryz.underlying113 (by kernel_rfl) (by kernel_rfl) w
theorem eq26 (S : Shp) (w : World) : (Op.equal 26 (.agg (shpC S).toArray) (.agg (shpC S).toArray)).run Tryz.prog w = .ok true w := eqSelf Tryz.underlying26 (by kernel_rfl) (by kernel_rfl) w
theorem eq32 (C : Cfg) (w : World) : (Op.equal 32 (.agg (cfgC C).toArray) (.agg (cfgC C).toArray)).run Tryz.prog w = .ok true w := eqSelf Tryz.underlying32 (by kernel_rfl) (by kernel_rfl) w
def rows2 (l : List (Int × Int)) : List (List Value) := l.map fun a => [iv a.1, iv a.2]
theorem Twos.rws {H : Heap} {x : Value} {l : List (Int × Int)} (h : Twos H x l) : Rws H 2 x (rows2 l) := by
  rcases h with ⟨rfl, rfl⟩ | ⟨b, off, c, rfl, h⟩
  · exact .inl ⟨rfl, rfl⟩
  · refine .inr ⟨b, off, c, by simp [rows2], fun i hi => ?_⟩
    have hi' : i < l.length := by simpa [rows2] using hi
    obtain ⟨h1, h2⟩ := h i hi'
    simp only [rows2, List.getElem_map]
    refine ⟨rfl, fun j hj => ?_⟩
    match j, hj with
    | 0, _ => exact h1
    | 1, _ => exact h2
def InvSc (H : Heap) (x y : Value) (n : Nat) (k : Nat) (t : Tm) (H1 : Heap) : Prop := ∃ i : Nat, i + k = n ∧ t 0 = x ∧ t 1 = y ∧ t 5 = iv i ∧ H1 = H
theorem same100 {H : Heap} {x y : Value} {l : List (Int × Int)} (hx : Twos H x l) (hy : Twos H y l) (hl : l.length ≤ 2000000) : T Tryz.prog 100 [x, y] H (.bool true) H := by
  refine T_eq hm light100 ?_
  obtain ⟨a1, c1, h1⟩ := hx.len
  obtain ⟨a2, c2, h2⟩ := hy.len
  have lx : sLenL x = some (iv l.length) := by rw [h1]; rfl
  have ly : sLenL y = some (iv l.length) := by rw [h2]; rfl
  simp [L100, lx, ly]
  refine loop_at (InvSc H x y l.length) l.length ?_ ?_
  · exact ⟨0, by omega, by simp, by simp, by simp, rfl⟩
  rintro k t H1 ⟨i, hik, t0, t1, t5, rfl⟩
  cases k with
  | zero =>
    have e1 : ¬ ((i : Int) < l.length) := by omega
    simp [L100_1, t5, t0, lx, e1]
  | succ k =>
    have hil : i < l.length := by omega
    have e1 : ((i : Int) < l.length) := by omega
    have e4 : IntKind.i64.wrap ((i : Int) + 1) = ((i + 1 : Nat) : Int) := by rw [w64 _ (by omega)]; omega
    obtain ⟨iN, hiN⟩ : ∃ n : Nat, n = i + 1 := ⟨_, rfl⟩
    rw [← hiN] at e4
    obtain ⟨b, off, c, hxb, _, ldx, _⟩ := (Twos.rws hx).at (i := i) (by simpa [rows2] using hil)
    obtain ⟨b', off', c', hyb, _, ldy, _⟩ := (Twos.rws hy).at (i := i) (by simpa [rows2] using hil)
    simp only [rows2, List.getElem_map, List.length_map] at ldx ldy hxb hyb
    have t0' := t0.trans hxb
    have t1' := t1.trans hyb
    simp [L100_1, t5, t0', t1', e1, hil, ldx, ldy, e4]
    refine goE_of rfl rfl (eq98 l[i]) ?_
    simp [t5, e4]
    exact ⟨k, by omega, iN, by omega, by simp [t0', ← hxb], by simp [t1', ← hyb], by simp, rfl⟩
theorem same101 {H : Heap} {x y : Value} {l : List I8.In} (hx : Rws H 6 x (l.map I8.rowI)) (hy : Rws H 6 y (l.map I8.rowI)) (hl : l.length ≤ 2000000) : T Tryz.prog 101 [x, y] H (.bool true) H := by
  refine T_eq hm light101 ?_
  obtain ⟨a1, c1, h1⟩ := hx.len
  obtain ⟨a2, c2, h2⟩ := hy.len
  rw [List.length_map] at h1 h2
  have lx : sLenL x = some (iv l.length) := by rw [h1]; rfl
  have ly : sLenL y = some (iv l.length) := by rw [h2]; rfl
  simp [L101, lx, ly]
  refine loop_at (InvSc H x y l.length) l.length ?_ ?_
  · exact ⟨0, by omega, by simp, by simp, by simp, rfl⟩
  rintro k t H1 ⟨i, hik, t0, t1, t5, rfl⟩
  cases k with
  | zero =>
    have e1 : ¬ ((i : Int) < l.length) := by omega
    simp [L101_1, t5, t0, lx, e1]
  | succ k =>
    have hil : i < l.length := by omega
    have e1 : ((i : Int) < l.length) := by omega
    have e4 : IntKind.i64.wrap ((i : Int) + 1) = ((i + 1 : Nat) : Int) := by rw [w64 _ (by omega)]; omega
    obtain ⟨iN, hiN⟩ : ∃ n : Nat, n = i + 1 := ⟨_, rfl⟩
    rw [← hiN] at e4
    obtain ⟨b, off, c, hxb, _, ldx, _⟩ := hx.at (i := i) (by simpa using hil)
    obtain ⟨b', off', c', hyb, _, ldy, _⟩ := hy.at (i := i) (by simpa using hil)
    simp only [List.getElem_map, List.length_map] at ldx ldy hxb hyb
    obtain ⟨e, he⟩ : ∃ e, e = l[i] := ⟨_, rfl⟩
    rw [← he] at ldx ldy
    have ldx : H1.loadN ⟨b, off + i * 6, none⟩ 0 6 = some [iv e.kind, iv e.op, iv e.a, iv e.b, iv e.c, iv e.k] := ldx
    have ldy : H1.loadN ⟨b', off' + i * 6, none⟩ 0 6 = some [iv e.kind, iv e.op, iv e.a, iv e.b, iv e.c, iv e.k] := ldy
    have t0' := t0.trans hxb
    have t1' := t1.trans hyb
    simp [L101_1, t5, t0', t1', e1, hil, ldx, ldy, e4]
    refine goE_of rfl rfl (eq113 e) ?_
    simp [t5, e4]
    exact ⟨k, by omega, iN, by omega, by simp [t0', ← hxb], by simp [t1', ← hyb], by simp, rfl⟩
structure Jn (P : Jp) : Prop where
  nc : P.cells.length ≤ 2000000
  nr : P.reds.length ≤ 2000000
  nk : P.codes.length ≤ 2000000
  ni : ∀ c ∈ P.codes, c.length ≤ 2000000
def InvSj (H : Heap) (p q : Nat) (d : Nat) (n : Nat) (k : Nat) (t : Tm) (H1 : Heap) : Prop := ∃ i : Nat, i + k = n ∧ t 2 = ptr p ∧ t 3 = ptr q ∧ t d = iv i ∧ H1 = H
theorem jobsame_T {H : Heap} (hw : H.WF) {P : Jp} {xc xr xk yc yr yk : Value} (hx : Jr H P xc xr xk) (hy : Jr H P yc yr yk) (hn : Jn P) : T Tryz.prog 58 [.agg (jobC (P.jb xc xr xk)).toArray, .agg (jobC (P.jb yc yr yk)).toArray] H (.bool true) H := by
  refine T_seen hm light58 rfl ?_
  obtain ⟨HA, hHA⟩ : ∃ HA, HA = H.new 29 11 (jobC (P.jb xc xr xk)) := ⟨_, rfl⟩
  have onA : On H HA := by rw [hHA]; exact (On.refl hw).new _ _ _
  have vA : Vr HA H.next 29 11 (jobC (P.jb xc xr xk)) := by rw [hHA]; exact Vr.mk' hw _ _ _
  have wA := onA.wf
  have nA : HA.next = H.next + 1 := by rw [hHA]; rfl
  obtain ⟨HB, hHB⟩ : ∃ HB, HB = HA.new 29 11 (jobC (P.jb yc yr yk)) := ⟨_, rfl⟩
  have onB : On HA HB := by rw [hHB]; exact (On.refl wA).new _ _ _
  have vB : Vr HB (H.next + 1) 29 11 (jobC (P.jb yc yr yk)) := by rw [hHB, ← nA]; exact Vr.mk' wA _ _ _
  have wB := onB.wf
  have onHB := onA.trans onB
  have X := hx.on hw onHB
  have Y := hy.on hw onHB
  have jx := JL.of (vA.on wA onB)
  have jy := JL.of vB
  obtain ⟨bx, hbx⟩ : ∃ b, b = P.jb xc xr xk := ⟨_, rfl⟩
  obtain ⟨by', hby⟩ : ∃ b, b = P.jb yc yr yk := ⟨_, rfl⟩
  have ax : bx.words = P.words ∧ bx.fuel = P.fuel ∧ bx.S = P.S ∧ bx.xc = xc ∧ bx.xr = xr ∧ bx.xk = xk := by rw [hbx]; exact ⟨rfl, rfl, rfl, rfl, rfl, rfl⟩
  have ay : by'.words = P.words ∧ by'.fuel = P.fuel ∧ by'.S = P.S ∧ by'.xc = yc ∧ by'.xr = yr ∧ by'.xk = yk := by rw [hby]; exact ⟨rfl, rfl, rfl, rfl, rfl, rfl⟩
  rw [← hbx] at jx hHA
  rw [← hby] at jy hHB
  rw [← hbx, ← hby]
  obtain ⟨x0, x1, x2, x3, x4, x9, x10, xS, _⟩ := jx
  obtain ⟨y0, y1, y2, y3, y4, y9, y10, yS, _⟩ := jy
  obtain ⟨a0, a1, a2, a3, a4, a5⟩ := ax
  obtain ⟨b0, b1, b2, b3, b4, b5⟩ := ay
  rw [a3] at x1; rw [a4] at x2; rw [a5] at x10; rw [a0] at x0; rw [a1] at x3; rw [a2] at xS
  rw [b3] at y1; rw [b4] at y2; rw [b5] at y10; rw [b0] at y0; rw [b1] at y3; rw [b2] at yS
  have cT := same100 X.xc Y.xc hn.nc
  obtain ⟨ar, cr, hxr⟩ := X.xr.len
  obtain ⟨br, dr, hyr⟩ := Y.xr.len
  obtain ⟨ak, ck, hxk⟩ := X.xk.len
  obtain ⟨bk, dk, hyk⟩ := Y.xk.len
  have lxr : sLenL xr = some (iv P.reds.length) := by rw [hxr]; rfl
  have lyr : sLenL yr = some (iv P.reds.length) := by rw [hyr]; rfl
  have lxk : sLenL xk = some (iv P.codes.length) := by rw [hxk]; rfl
  have lyk : sLenL yk = some (iv P.codes.length) := by rw [hyk]; rfl
  have hHA2 : H.new 29 11 [iv bx.words, bx.xc, bx.xr, iv bx.fuel, iv bx.S.kind, iv bx.S.lo, iv bx.S.hi, iv bx.S.step, iv bx.S.items, iv bx.S.stages, bx.xk] = HA := hHA.symm
  have hHB2 : HA.new 29 11 [iv by'.words, by'.xc, by'.xr, iv by'.fuel, iv by'.S.kind, iv by'.S.lo, iv by'.S.hi, iv by'.S.step, iv by'.S.items, iv by'.S.stages, by'.xk] = HB := hHB.symm
  simp [L58, hHA2, hHB2, nA, x0, y0, x3, y3, xS, yS]
  refine goE_of rfl rfl (eq26 P.S) ?_
  simp [x1, y1]
  refine goT_of cT ?_
  simp [x2, y2, x10, y10, lxr, lyr, lxk, lyk]
  refine loop_at (InvSj HB H.next (H.next + 1) 5 P.reds.length) P.reds.length ?_ ?_
  · exact ⟨0, by omega, by simp, by simp, by simp, rfl⟩
  rintro k t H1 ⟨i, hik, t2, t3, t5, rfl⟩
  cases k with
  | succ k =>
    have hil : i < P.reds.length := by omega
    have hsm := hn.nr
    have e1 : ((i : Int) < P.reds.length) := by omega
    have e4 : IntKind.i64.wrap ((i : Int) + 1) = ((i + 1 : Nat) : Int) := by rw [w64 _ (by omega)]; omega
    obtain ⟨iN, hiN⟩ : ∃ n : Nat, n = i + 1 := ⟨_, rfl⟩
    rw [← hiN] at e4
    obtain ⟨b, off, c, hxb, _, ldx, _⟩ := (Twos.rws X.xr).at (i := i) (by simpa [rows2] using hil)
    obtain ⟨b', off', c', hyb, _, ldy, _⟩ := (Twos.rws Y.xr).at (i := i) (by simpa [rows2] using hil)
    simp only [rows2, List.getElem_map, List.length_map] at ldx ldy hxb hyb
    have x2' := x2
    have y2' := y2
    rw [hxb] at x2'
    rw [hyb] at y2'
    simp [L58_1, t5, t2, t3, x2', y2', e1, hil, ldx, ldy, e4]
    refine goE_of rfl rfl (eq101 P.reds[i]) ?_
    simp [t5, e4]
    exact ⟨k, by omega, iN, by omega, by simp [t2], by simp [t3], by simp, rfl⟩
  | zero =>
    have e1 : ¬ ((i : Int) < P.reds.length) := by omega
    simp [L58_1, t5, t2, x2, lxr, e1]
    refine loop_at (InvSj H1 H.next (H.next + 1) 6 P.codes.length) P.codes.length ?_ ?_
    · exact ⟨0, by omega, by simp [t2], by simp [t3], by simp, rfl⟩
    rintro k t H2 ⟨i, hik, t2, t3, t6, rfl⟩
    cases k with
    | zero =>
      have e1 : ¬ ((i : Int) < P.codes.length) := by omega
      simp [L58_2, t6, t2, x10, lxk, e1]
      exact onHB.keep
    | succ k =>
      have hil : i < P.codes.length := by omega
      have hsm := hn.nk
      have e1 : ((i : Int) < P.codes.length) := by omega
      have e4 : IntKind.i64.wrap ((i : Int) + 1) = ((i + 1 : Nat) : Int) := by rw [w64 _ (by omega)]; omega
      obtain ⟨iN, hiN⟩ : ∃ n : Nat, n = i + 1 := ⟨_, rfl⟩
      rw [← hiN] at e4
      obtain ⟨b, off, c, u, hxb, ldx, ru⟩ := X.xk.at hil
      obtain ⟨b', off', c', v, hyb, ldy, rv⟩ := Y.xk.at hil
      have kT := same101 ru rv (hn.ni _ (List.getElem_mem hil))
      have x10' := x10
      have y10' := y10
      rw [hxb] at x10'
      rw [hyb] at y10'
      simp [L58_2, t6, t2, t3, x10', y10', e1, hil, ldx, ldy]
      refine goT_of kT ?_
      simp [t6, e4]
      exact ⟨k, by omega, iN, by omega, by simp [t2], by simp [t3], by simp, rfl⟩
theorem playsame_T {H : Heap} (hw : H.WF) {P : Jp} {xc xr xk yc yr yk : Value} (hx : Jr H P xc xr xk) (hy : Jr H P yc yr yk) (hn : Jn P) (C : Cfg) {xe ye : Value} {l : List Ent} (he : Rl H xe l) (hf : Rl H ye l) (hl : l.length ≤ 100000) :
    T Tryz.prog 17 [.agg (runC (P.jb xc xr xk) C xe).toArray, .agg (runC (P.jb yc yr yk) C ye).toArray] H (.bool true) H := by
  refine T_seen hm light17 rfl ?_
  obtain ⟨rx, hrx⟩ : ∃ r, r = runC (P.jb xc xr xk) C xe := ⟨_, rfl⟩
  obtain ⟨ry, hry⟩ : ∃ r, r = runC (P.jb yc yr yk) C ye := ⟨_, rfl⟩
  have lrx : rx.length = 23 := by rw [hrx]; rfl
  have lry : ry.length = 23 := by rw [hry]; rfl
  obtain ⟨HA, hHA⟩ : ∃ HA, HA = H.new 42 23 rx := ⟨_, rfl⟩
  have onA : On H HA := by rw [hHA]; exact (On.refl hw).new _ _ _
  have vA : Vr HA H.next 42 23 (runC (P.jb xc xr xk) C xe) := by rw [hHA, ← hrx]; exact Vr.mk' hw _ _ _
  have wA := onA.wf
  have nA : HA.next = H.next + 1 := by rw [hHA]; rfl
  obtain ⟨HB, hHB⟩ : ∃ HB, HB = HA.new 42 23 ry := ⟨_, rfl⟩
  have onB : On HA HB := by rw [hHB]; exact (On.refl wA).new _ _ _
  have vB : Vr HB (H.next + 1) 42 23 (runC (P.jb yc yr yk) C ye) := by rw [hHB, hry, ← nA]; exact Vr.mk' wA _ _ _
  have wB := onB.wf
  have onHB := onA.trans onB
  have X := hx.on hw onHB
  have Y := hy.on hw onHB
  have jx := RL.of (vA.on wA onB)
  have jy := RL.of vB
  have xJ := jx.lJ
  have xC := jx.lC
  have x22 := jx.l22
  have yJ := jy.lJ
  have yC := jy.lC
  have y22 := jy.l22
  have jT := jobsame_T wB X Y hn
  have eT := same_T (Rl.on hw he onHB) (Rl.on hw hf onHB) hl
  have hlt : decide (l = l) = true := by simp
  rw [hlt] at eT
  rw [← hrx, ← hry]
  obtain ⟨cx, hcx⟩ : ∃ c, c = jobC (P.jb xc xr xk) := ⟨_, rfl⟩
  obtain ⟨cy, hcy⟩ : ∃ c, c = jobC (P.jb yc yr yk) := ⟨_, rfl⟩
  rw [← hcx] at xJ
  rw [← hcy] at yJ
  rw [← hcx, ← hcy] at jT
  simp [L17, lrx, lry, ← hHA, ← hHB, nA, xJ, yJ]
  refine goT_of jT ?_
  simp [xC, yC]
  refine goE_of rfl rfl (eq32 C) ?_
  simp [x22, y22]
  refine goT_of eT ?_
  simp
  exact onHB.keep
end Go.Proofs.YtnomffikflfilaaGreat.E8
namespace Go.Proofs.YtnomffikflfilaaGreat.E8
open I8
open Go.Ot Go.RowKit
open R14 (ci Twos)
set_option linter.unusedSimpArgs false
set_option linter.unusedVariables false
set_option maxRecDepth 100000
abbrev Lt8 (l : List Nat) : Prop := ∀ c ∈ l, c < 256
theorem Lt8.suf {l l2 : List Nat} (h : Lt8 l) (hs : l2 <:+ l) : Lt8 l2 := fun c hc => h c (hs.mem hc)
def KB (n : Nat) (c : List In) : Prop := c.length ≤ n ∧ ∀ a ∈ c, I8.okI a.kind ∧ I8.okI a.k
theorem stU_kk (M : Nat) (has : Bool) (set : In → Int → In) (hset : ∀ x v, (set x v).kind = x.kind ∧ (set x v).k = x.k) (s : St) : (stU M has set s).1.kind = s.1.kind ∧ (stU M has set s).1.k = s.1.k := by
  unfold stU; split
  · exact hset _ _
  · exact ⟨rfl, rfl⟩
theorem it3_kk (M : Nat) (h : Sh) (s : St) : (it3 M h 3 s).1.kind = s.1.kind ∧ (it3 M h 3 s).1.k = s.1.k := by
  obtain ⟨a1, a2⟩ := stU_kk M h.a setA (fun _ _ => ⟨rfl, rfl⟩) s
  obtain ⟨b1, b2⟩ := stU_kk M h.b setB (fun _ _ => ⟨rfl, rfl⟩) (stU M h.a setA s)
  obtain ⟨c1, c2⟩ := stU_kk M (h.c || h.cell) setC (fun _ _ => ⟨rfl, rfl⟩) (stU M h.b setB (stU M h.a setA s))
  exact ⟨c1.trans (b1.trans a1), c2.trans (b2.trans a2)⟩
theorem it3_suf (M : Nat) (h : Sh) (s : St) : (it3 M h 3 s).2.1 <:+ s.2.1 := (stU_suf _ _ _ _).trans ((stU_suf _ _ _ _).trans (stU_suf _ _ _ _))
theorem parts_suf (M : Nat) (h : Sh) (s : St) : (partsS M h s).2.1 <:+ s.2.1 := (stK_suf _ _).trans ((it3_suf _ _ _).trans (stU_suf _ _ _ _))
theorem parts_kk (M : Nat) (h : Sh) (s : St) (hl : Lt8 s.2.1) (hk : I8.okI s.1.kind) (h2 : I8.okI s.1.k) : I8.okI (partsS M h s).1.kind ∧ I8.okI (partsS M h s).1.k := by
  have e1 := stU_kk M (h.one || h.two) setOp (fun _ _ => ⟨rfl, rfl⟩) s
  have e2 := it3_kk M h (stU M (h.one || h.two) setOp s)
  have hs := (it3_suf M h (stU M (h.one || h.two) setOp s)).trans (stU_suf M (h.one || h.two) setOp s)
  unfold partsS stK
  split
  · refine ⟨?_, iS_ok (hl.suf hs)⟩
    show I8.okI (it3 M h 3 _).1.kind
    rw [e2.1, e1.1]; exact hk
  · rw [e2.1, e1.1, e2.2, e1.2]; exact ⟨hk, h2⟩
theorem loopS_B : ∀ (n : Nat) (l : List Nat) (f : Nat) (acc : List In), Lt8 l → (∀ a ∈ acc, I8.okI a.kind ∧ I8.okI a.k) → (∀ a ∈ (loopS 256 n l f acc).2.1, I8.okI a.kind ∧ I8.okI a.k) ∧ (loopS 256 n l f acc).2.1.length ≤ acc.length + n
  | 0, l, f, acc, hl, ha => ⟨ha, by simp [loopS]⟩
  | n + 1, l, f, acc, hl, ha => by
    have hle := rdP_le 256 l f
    have hs := rdP_suf 256 l f
    unfold loopS
    split
    · exact ⟨fun a h => (by cases h), by simp⟩
    · split
      · exact ⟨fun a h => (by cases h), by simp⟩
      · have hk : I8.okI (newI (rdP 256 l f).1).kind := by
          show I8.okI (((rdP 256 l f).1 : Nat) : Int)
          unfold I8.okI; omega
        have hk0 : I8.okI (newI (rdP 256 l f).1).k := by
          show I8.okI 0
          unfold I8.okI; omega
        have hp := parts_kk 256 (shp (rdP 256 l f).1) (newI (rdP 256 l f).1, (rdP 256 l f).2) (hl.suf hs) hk hk0
        have ih := loopS_B n (partsS 256 (shp (rdP 256 l f).1) (newI (rdP 256 l f).1, (rdP 256 l f).2)).2.1 (partsS 256 (shp (rdP 256 l f).1) (newI (rdP 256 l f).1, (rdP 256 l f).2)).2.2 (acc ++ [(partsS 256 (shp (rdP 256 l f).1) (newI (rdP 256 l f).1, (rdP 256 l f).2)).1])
          (hl.suf ((parts_suf _ _ _).trans hs)) (fun a h => by
            rcases List.mem_append.1 h with h | h
            · exact ha a h
            · simp only [List.mem_singleton] at h
              subst h; exact hp)
        refine ⟨ih.1, ?_⟩
        have := ih.2
        simp only [List.length_append, List.length_cons, List.length_nil] at this
        omega
theorem decS_B {b : List Nat} (hb : Lt8 b) (n : Int) : KB b.length (decS 256 b n).1 := by
  have h := loopS_B (countS b 0 1).1 (countS b 0 1).2.1 (countS b 0 1).2.2 [] (hb.suf (countS_suf b 0 1)) (fun a h => by cases h)
  have hc : (countS b 0 1).1 ≤ b.length := count_small
  unfold decS endS
  split
  · exact ⟨by simp, fun a h => (by cases h)⟩
  · split
    · exact ⟨by simp, fun a h => (by cases h)⟩
    · split
      · exact ⟨by simp, fun a h => (by cases h)⟩
      · exact ⟨by have := h.2; simp at this; show (loopS 256 _ _ _ []).2.1.length ≤ _; omega, h.1⟩
theorem okNat {n : Nat} (h : n ≤ M31) : okW (n : Int) := by unfold M31 at h; unfold okW; omega
theorem cellsS_B : ∀ (n : Nat) (l : List Nat) (f : Nat) (acc : List (Int × Int)), Lt8 l → (∀ a ∈ acc, okT a) → (∀ a ∈ (cellsS n l f acc).1, okT a) ∧ (cellsS n l f acc).1.length = acc.length + n ∧ (cellsS n l f acc).2.1 <:+ l
  | 0, l, f, acc, hl, ha => ⟨ha, rfl, List.suffix_refl _⟩
  | n + 1, l, f, acc, hl, ha => by
    have hle := rdP_le M31 l f
    have hs := rdP_suf M31 l f
    have hs2 := (iS_suf (rdP M31 l f).2.1 (rdP M31 l f).2.2).trans hs
    have hi := iS_ok (f := (rdP M31 l f).2.2) (hl.suf hs)
    have ih := cellsS_B n (iS (rdP M31 l f).2.1 (rdP M31 l f).2.2).2.1 (iS (rdP M31 l f).2.1 (rdP M31 l f).2.2).2.2 (acc ++ [(((rdP M31 l f).1 : Int), (iS (rdP M31 l f).2.1 (rdP M31 l f).2.2).1)]) (hl.suf hs2) (fun a h => by
      rcases List.mem_append.1 h with h | h
      · exact ha a h
      · simp only [List.mem_singleton] at h
        subst h
        refine ⟨?_, hi⟩
        exact okNat hle)
    obtain ⟨i1, i2, i3⟩ := ih
    refine ⟨i1, ?_, i3.trans hs2⟩
    show (cellsS n _ _ _).1.length = _
    rw [i2]; simp; omega
theorem rowS2_B {l : List Nat} {f : Nat} (hl : Lt8 l) : (∀ a ∈ (rowS2 l f).1, okT a) ∧ (rowS2 l f).1.length ≤ l.length ∧ (rowS2 l f).2.1 <:+ l := by
  have hs := countS_suf l f 2
  obtain ⟨h1, h2, h3⟩ := cellsS_B (countS l f 2).1 (countS l f 2).2.1 (countS l f 2).2.2 [] (hl.suf hs) (fun a h => by cases h)
  refine ⟨h1, ?_, h3.trans hs⟩
  have hc : (countS l f 2).1 ≤ l.length := count_small
  unfold rowS2
  rw [h2]; simpa using hc
theorem intsS_suf : ∀ (n : Nat) (l : List Nat) (f : Nat) (acc : List Int), (intsS n l f acc).2.1 <:+ l
  | 0, l, f, acc => List.suffix_refl _
  | n + 1, l, f, acc => (intsS_suf n _ _ _).trans (iS_suf l f)
theorem listS_suf (l : List Nat) (f : Nat) : (listS l f).2.1 <:+ l := by
  have h := (intsS_suf (countS l f 1).1 (countS l f 1).2.1 (countS l f 1).2.2 []).trans (countS_suf l f 1)
  unfold listS listR
  split <;> exact h
theorem codesS_B (nr : Int) : ∀ (n : Nat) (l : List Nat) (f : Nat) (acc : List (List In)), Lt8 l → (∀ c ∈ acc, KB 2000000 c) → l.length ≤ 2000000 → (∀ c ∈ (codesS nr n l f acc).2.1, KB 2000000 c) ∧ (codesS nr n l f acc).2.1.length ≤ acc.length + n ∧ (codesS nr n l f acc).2.2.1 <:+ l
  | 0, l, f, acc, hl, ha, hn => ⟨ha, by simp [codesS], List.suffix_refl _⟩
  | n + 1, l, f, acc, hl, ha, hn => by
    have hs := textS_suf l f
    have hb := textS_lt (f := f) hl
    have htl := textS_len l f
    unfold codesS
    split
    · exact ⟨fun c h => (by cases h), by simp, hs⟩
    · split
      · exact ⟨fun c h => (by cases h), by simp, hs⟩
      · have hd := decS_B hb nr
        have ih := codesS_B nr n (textS l f).2.1 (textS l f).2.2 (acc ++ [(decS 256 (textS l f).1 nr).1]) (hl.suf hs) (fun c h => by
          rcases List.mem_append.1 h with h | h
          · exact ha c h
          · simp only [List.mem_singleton] at h
            subst h
            exact ⟨by have := hd.1; omega, hd.2⟩) (Nat.le_trans hs.length_le hn)
        obtain ⟨i1, i2, i3⟩ := ih
        refine ⟨i1, ?_, i3.trans hs⟩
        simp only [List.length_append, List.length_cons, List.length_nil] at i2
        omega
def KI (n : Nat) (c : List I8.In) : Prop := c.length ≤ n ∧ ∀ a ∈ c, I8.okI a.kind ∧ I8.okI a.k
theorem KB.fr {n : Nat} {c : List In} (h : KB n c) : KI n (c.map frE) := by
  refine ⟨by simpa using h.1, fun a ha => ?_⟩
  obtain ⟨d, hd, rfl⟩ := List.mem_map.1 ha
  exact h.2 d hd
structure JpB (P : Jp) : Prop where
  c : ∀ a ∈ P.cells, okT a
  r : ∀ a ∈ P.reds, okT a
  k : ∀ c ∈ P.codes, KI 2000000 c
  S : ShpOk P.S
  n : Jn P
theorem tKs_B {P : Jp} {l : List Nat} {f : Nat} (h : JpB P) (hl : Lt8 l) (hn : l.length ≤ 2000000) : JpB (tKs P l f).2.1 ∧ (tKs P l f).2.2.1 <:+ l := by
  have hs := countS_suf l f 1
  have hc : (countS l f 1).1 ≤ l.length := count_small
  obtain ⟨h1, h2, h3⟩ := codesS_B P.reds.length (countS l f 1).1 (countS l f 1).2.1 (countS l f 1).2.2 [] (hl.suf hs) (fun c h => by cases h) (Nat.le_trans hs.length_le hn)
  have h3 : (ksS P l f).2.2.1 <:+ l := h3.trans hs
  unfold tKs
  split
  · exact ⟨h, h3⟩
  · have hk : ∀ c ∈ frK (ksS P l f).2.1, KI 2000000 c := by
      intro c hc
      obtain ⟨d, hd, rfl⟩ := List.mem_map.1 hc
      exact (h1 d hd).fr
    refine ⟨⟨h.c, h.r, hk, h.S, ⟨h.n.nc, h.n.nr, ?_, fun c hc => (hk c hc).1⟩⟩, h3⟩
    show (frK (ksS P l f).2.1).length ≤ _
    unfold frK ksS
    rw [List.length_map]
    simp only [List.length_nil] at h2
    omega
theorem getD_ok {a : List Int} (h : ∀ x ∈ a, okI x) (i : Nat) : okW (a.getD i 0) := by
  rcases Nat.lt_or_ge i a.length with hi | hi
  · rw [List.getD, List.getElem?_eq_getElem hi]
    exact h _ (List.getElem_mem hi)
  · rw [List.getD, List.getElem?_eq_none hi]
    unfold okW; decide
theorem tLs_B {P : Jp} {l : List Nat} {f : Nat} (h : JpB P) (hl : Lt8 l) (hn : l.length ≤ 2000000) : JpB (tLs P l f).2.1 ∧ (tLs P l f).2.2.1 <:+ l := by
  have hs := listS_suf l f
  have ho := listS_ok (f := f) hl
  unfold tLs
  split
  · obtain ⟨a, b⟩ := tKs_B (P := { P with S := ⟨P.S.kind, (listS l f).1.getD 0 0, (listS l f).1.getD 1 0, (listS l f).1.getD 2 0, (listS l f).1.getD 3 0, (listS l f).1.getD 4 0⟩ }) (l := (listS l f).2.1) (f := (listS l f).2.2)
      ⟨h.c, h.r, h.k, ⟨getD_ok ho _, getD_ok ho _, getD_ok ho _, getD_ok ho _, getD_ok ho _⟩, ⟨h.n.nc, h.n.nr, h.n.nk, h.n.ni⟩⟩ (hl.suf hs) (Nat.le_trans hs.length_le hn)
    exact ⟨a, b.trans hs⟩
  · split
    · exact ⟨h, hs⟩
    · obtain ⟨a, b⟩ := tKs_B (l := (listS l f).2.1) (f := (listS l f).2.2) h (hl.suf hs) (Nat.le_trans hs.length_le hn)
      exact ⟨a, b.trans hs⟩
theorem rdS (l : List Nat) (f : Nat) : ∃ r : Nat × List Nat × Nat, r = rdP M31 l f ∧ r.2.1 <:+ l := ⟨_, rfl, rdP_suf M31 l f⟩
theorem tFs_B {P : Jp} {l : List Nat} {f : Nat} (h : JpB P) (hl : Lt8 l) (hn : l.length ≤ 2000000) : JpB (tFs P l f).2.1 ∧ (tFs P l f).2.2.1 <:+ l := by
  unfold tFs
  obtain ⟨r1, h1, s1⟩ := rdS l f
  rw [← h1]
  obtain ⟨r2, h2, s2⟩ := rdS r1.2.1 r1.2.2
  rw [← h2]
  have hs := s2.trans s1
  clear h1 h2
  obtain ⟨a, b⟩ := tLs_B (P := { P with fuel := r1.1, S := { P.S with kind := r2.1 } }) (l := r2.2.1) (f := r2.2.2)
    ⟨h.c, h.r, h.k, ⟨h.S.lo, h.S.hi, h.S.step, h.S.items, h.S.stages⟩, ⟨h.n.nc, h.n.nr, h.n.nk, h.n.ni⟩⟩ (hl.suf hs) (Nat.le_trans hs.length_le hn)
  exact ⟨a, b.trans hs⟩
theorem tRs_B {P : Jp} {l : List Nat} {f : Nat} (h : JpB P) (hl : Lt8 l) (hn : l.length ≤ 2000000) : JpB (tRs P l f).2.1 ∧ (tRs P l f).2.2.1 <:+ l := by
  unfold tRs
  obtain ⟨h1, h2, h3⟩ := rowS2_B (f := f) hl
  obtain ⟨a, b⟩ := tFs_B (P := { P with reds := (rowS2 l f).1 }) (l := (rowS2 l f).2.1) (f := (rowS2 l f).2.2) ⟨h.c, h1, h.k, h.S, ⟨h.n.nc, Nat.le_trans h2 hn, h.n.nk, h.n.ni⟩⟩ (hl.suf h3) (Nat.le_trans h3.length_le hn)
  exact ⟨a, b.trans h3⟩
theorem tCs_B {P : Jp} {l : List Nat} {f : Nat} (h : JpB P) (hl : Lt8 l) (hn : l.length ≤ 2000000) : JpB (tCs P l f).2.1 ∧ (tCs P l f).2.2.1 <:+ l := by
  unfold tCs
  obtain ⟨h1, h2, h3⟩ := rowS2_B (f := f) hl
  obtain ⟨a, b⟩ := tRs_B (P := { P with cells := (rowS2 l f).1 }) (l := (rowS2 l f).2.1) (f := (rowS2 l f).2.2) ⟨h1, h.r, h.k, h.S, ⟨Nat.le_trans h2 hn, h.n.nr, h.n.nk, h.n.ni⟩⟩ (hl.suf h3) (Nat.le_trans h3.length_le hn)
  exact ⟨a, b.trans h3⟩
theorem jp0_B (w : Nat) : JpB (jp0 w) := ⟨fun a h => (by cases h), fun a h => (by cases h), fun a h => (by cases h), by constructor <;> (show okW 0; unfold okW; decide), ⟨by show 0 ≤ _; omega, by show 0 ≤ _; omega, by show 0 ≤ _; omega, fun c h => (by cases h)⟩⟩
theorem jobS_B {l : List Nat} {f : Nat} (hl : Lt8 l) (hn : l.length ≤ 2000000) : JpB (jobS l f).2.1 ∧ (jobS l f).2.2.1 <:+ l := by
  unfold jobS
  obtain ⟨r1, h1, hs⟩ := rdS l f
  rw [← h1]
  clear h1
  obtain ⟨a, b⟩ := tCs_B (P := jp0 r1.1) (l := r1.2.1) (f := r1.2.2) (jp0_B _) (hl.suf hs) (Nat.le_trans hs.length_le hn)
  exact ⟨a, b.trans hs⟩
def tenS : Nat → List Nat → Nat → List Int → List Int × List Nat × Nat
  | 0, l, f, acc => (acc, l, f)
  | n + 1, l, f, acc => tenS n (rdP M31 l f).2.1 (rdP M31 l f).2.2 (acc ++ [((rdP M31 l f).1 : Int)])
theorem tenS_B : ∀ (n : Nat) (l : List Nat) (f : Nat) (acc : List Int), (tenS n l f acc).1.length = acc.length + n ∧ (tenS n l f acc).2.1 <:+ l
  | 0, l, f, acc => ⟨rfl, List.suffix_refl _⟩
  | n + 1, l, f, acc => by
    unfold tenS
    obtain ⟨r1, h1, hs⟩ := rdS l f
    rw [← h1]
    clear h1
    obtain ⟨h1, h2⟩ := tenS_B n r1.2.1 r1.2.2 (acc ++ [(r1.1 : Int)])
    refine ⟨?_, h2.trans hs⟩
    rw [h1]; simp; omega
def cfgOf (a : List Int) (b : Bool) : Cfg := ⟨a.getD 0 0, a.getD 1 0, a.getD 2 0, a.getD 3 0, a.getD 4 0, a.getD 5 0, a.getD 6 0, a.getD 7 0, a.getD 8 0, a.getD 9 0, b⟩
def cfgS (l : List Nat) (f : Nat) : Cfg × List Nat × Nat :=
  (cfgOf (tenS 10 l f []).1 (flagS (tenS 10 l f []).2.1 (tenS 10 l f []).2.2).1, (flagS (tenS 10 l f []).2.1 (tenS 10 l f []).2.2).2)
theorem cfgS_suf (l : List Nat) (f : Nat) : (cfgS l f).2.1 <:+ l := by
  unfold cfgS
  have h := tenS_B 10 l f []
  obtain ⟨r, hr⟩ : ∃ r, r = tenS 10 l f [] := ⟨_, rfl⟩
  rw [← hr] at h ⊢
  exact (flagS_suf r.2.1 r.2.2).trans h.2
theorem rowE_B {l : List Nat} {f : Nat} (hl : Lt8 l) : (rowE l f).2.2.1 <:+ l ∧ okI (rowE l f).2.1.1 := by
  unfold rowE
  obtain ⟨r1, h1, hs⟩ := rdS l f
  rw [← h1]
  clear h1
  exact ⟨(flagS_suf _ _).trans ((iS_suf _ _).trans hs), iS_ok (f := r1.2.2) (hl.suf hs)⟩
theorem entGo_B (n : Nat) (k : Nat) : ∀ (l : List Nat) (f : Nat) (acc : List Ent), Lt8 l → (∀ e ∈ acc, okI e.1) → acc.length ≤ n → (∀ e ∈ (entGo n k l f acc).2.1, okI e.1) ∧ (entGo n k l f acc).2.1.length ≤ n := by
  induction k with
  | zero => intro l f acc hl ha hal; exact ⟨ha, hal⟩
  | succ k ih =>
    intro l f acc hl ha hal
    unfold entGo
    have hr := rowE_B (f := f) hl
    obtain ⟨r, hr'⟩ : ∃ r, r = rowE l f := ⟨_, rfl⟩
    rw [← hr'] at hr ⊢
    clear hr'
    split
    · rename_i hgo
      split
      · split
        · exact ⟨fun e h => (by cases h), by simp⟩
        · exact ⟨fun e h => (by cases h), by simp⟩
      · rename_i hm
        refine ih _ _ _ (hl.suf hr.1) (fun e h => ?_) ?_
        · rcases List.mem_append.1 h with h | h
          · exact ha e h
          · rw [List.mem_replicate] at h
            rw [h.2]; exact hr.2
        · simp only [List.length_append, List.length_replicate]
          omega
    · exact ⟨ha, hal⟩
theorem entS_B {l : List Nat} {f : Nat} (hl : Lt8 l) : (∀ e ∈ (entS l f).2.1, okI e.1) ∧ (entS l f).2.1.length ≤ 40000 := by
  unfold entS
  obtain ⟨r1, h1, hs⟩ := rdS l f
  rw [← h1]
  clear h1
  split
  · exact ⟨fun e h => (by cases h), by simp⟩
  · obtain ⟨h1, h2⟩ := entGo_B r1.1 (r1.1 + 1) r1.2.1 r1.2.2 [] (hl.suf hs) (fun e h => (by cases h)) (by simp)
    exact ⟨h1, by omega⟩
end Go.Proofs.YtnomffikflfilaaGreat.E8
