/-
  Chapter 26: openings of a run, with the bounds of its numbers. Chapter 26: what the writer leaves alone; the entries laid down. Chapter 26: a config laid down.
-/
import Derived.Test.YtnomffikflfilaaGreatSeatD
import Derived.Test.YtnomffikflfilaaGreatSeatPA
namespace Go.Proofs.YtnomffikflfilaaGreat
open Go.Ot Go.ChangeShapes Go.WideShapes Go.ChangeAt Go.RowKit
open R14 (Twos)
open I8 (In rowI)
set_option linter.unusedSimpArgs false
set_option linter.unusedVariables false
set_option maxRecDepth 100000
def okT (a : Int × Int) : Prop := okW a.1 ∧ okW a.2
structure JbB (J : Jb) : Prop where
  c : ∀ a ∈ J.cells, okT a
  r : ∀ a ∈ J.reds, okT a
  k : ∀ c ∈ J.codes, ∀ a ∈ c, I8.okI a.k
theorem rdb_cell {H : Heap} {m : Nat} (ds : List Value) (h : Rd Tryz.prog H (m + 2) 98 ds) : ∃ a : Int × Int, ds = [iv a.1, iv a.2] ∧ okT a := by
  have hl : ds.length = 2 := (Go.Ot.rd_len Tryz.underlying98 h).trans (by kernel_rfl)
  match ds, hl with
  | [w0, w1], _ =>
    have g0 := rd_field Tryz.underlying98 h 0 rfl kc3
    have g1 := rd_field Tryz.underlying98 h 1 rfl kc2
    obtain ⟨a0, q0, k0⟩ := rd_int Tryz.underlying3 g0
    obtain ⟨a1, q1, k1⟩ := rd_int Tryz.underlying2 g1
    simp at q0 q1
    subst q0 q1
    exact ⟨(a0, a1), rfl, bounds_i64 k0, bounds_i64 k1⟩
theorem rdb_red {H : Heap} {m : Nat} (ds : List Value) (h : Rd Tryz.prog H (m + 2) 101 ds) : ∃ a : Int × Int, ds = [iv a.1, iv a.2] ∧ okT a := by
  have c132 : Tryz.prog.cellsOf 99 = 1 := by kernel_rfl
  have hl : ds.length = 2 := (Go.Ot.rd_len Tryz.underlying101 h).trans (by kernel_rfl)
  match ds, hl with
  | [w0, w1], _ =>
    have g0 := rd_field Tryz.underlying101 h 0 rfl c132
    have g1 := rd_field Tryz.underlying101 h 1 rfl kc2
    obtain ⟨a0, q0, k0⟩ := rd_int Tryz.underlying99 g0
    obtain ⟨a1, q1, k1⟩ := rd_int Tryz.underlying2 g1
    simp at q0 q1
    subst q0 q1
    exact ⟨(a0, a1), rfl, bounds_i64 k0, bounds_i64 k1⟩
theorem twosb_of {H : Heap} {s e : TypeId} {m : Nat} (hs : Tryz.prog.underlying s = some (.slice e)) (hc : Tryz.prog.cellsOf e = 2) (hel : ∀ ds, Rd Tryz.prog H m e ds → ∃ a : Int × Int, ds = [iv a.1, iv a.2] ∧ okT a) {x : Value} (h : Rd Tryz.prog H (m + 1) s [x]) : ∃ l : List (Int × Int), Twos H x l ∧ ∀ a ∈ l, okT a := by
  rcases rd_slice hs h hc with rfl | ⟨b, off, k, c, rfl, _, h⟩
  · exact ⟨[], .inl ⟨rfl, rfl⟩, by simp⟩
  · obtain ⟨l, hl, h⟩ := rd_all (Q := fun (a : Int × Int) ds => ds = [iv a.1, iv a.2] ∧ okT a) hel h
    refine ⟨l, .inr ⟨b, off, c, by rw [hl], fun i hi => ?_⟩, fun a ha => ?_⟩
    · obtain ⟨_, ds, _, h3, h4, _⟩ := h i hi
      subst h4
      exact ⟨h3 0 (by simp), h3 1 (by simp)⟩
    · obtain ⟨i, hi, rfl⟩ := List.mem_iff_getElem.mp ha
      obtain ⟨_, ds, _, _, _, h5⟩ := h i hi
      exact h5
theorem rdb_in {H : Heap} {m : Nat} (ds : List Value) (h : Rd Tryz.prog H (m + 2) 113 ds) : ∃ a : In, ds = rowI a ∧ (I8.okI a.kind ∧ I8.okI a.k) := by
  have hl : ds.length = 6 := (Go.Ot.rd_len Tryz.underlying113 h).trans (by kernel_rfl)
  have c137 : Tryz.prog.cellsOf 110 = 1 := by kernel_rfl
  have c138 : Tryz.prog.cellsOf 111 = 1 := by kernel_rfl
  match ds, hl with
  | [w0, w1, w2, w3, w4, w5], _ =>
    have g0 := rd_field Tryz.underlying113 h 0 rfl c137
    have g1 := rd_field Tryz.underlying113 h 1 rfl c138
    have g2 := rd_field Tryz.underlying113 h 2 rfl kc3
    have g3 := rd_field Tryz.underlying113 h 3 rfl kc3
    have g4 := rd_field Tryz.underlying113 h 4 rfl kc3
    have g5 := rd_field Tryz.underlying113 h 5 rfl kc2
    obtain ⟨a0, q0, k0⟩ := rd_int Tryz.underlying110 g0
    obtain ⟨a1, q1, _⟩ := rd_int Tryz.underlying111 g1
    obtain ⟨a2, q2, _⟩ := rd_int Tryz.underlying3 g2
    obtain ⟨a3, q3, _⟩ := rd_int Tryz.underlying3 g3
    obtain ⟨a4, q4, _⟩ := rd_int Tryz.underlying3 g4
    obtain ⟨a5, q5, k5⟩ := rd_int Tryz.underlying2 g5
    simp at q0 q1 q2 q3 q4 q5
    subst q0 q1 q2 q3 q4 q5
    exact ⟨⟨a0, a1, a2, a3, a4, a5⟩, rfl, bounds_i64 k0, bounds_i64 k5⟩
theorem rdb_code {H : Heap} {m : Nat} {x : Value} (h : Rd Tryz.prog H (m + 3) 103 [x]) : ∃ l : List In, Rws H 6 x (l.map rowI) ∧ ∀ a ∈ l, (I8.okI a.kind ∧ I8.okI a.k) := by
  rcases rd_slice Tryz.underlying103 h (show Tryz.prog.cellsOf 113 = 6 by kernel_rfl) with rfl | ⟨b, off, k, c, rfl, _, h⟩
  · exact ⟨[], .inl ⟨rfl, rfl⟩, by simp⟩
  · obtain ⟨l, hl, h⟩ := rd_all (Q := fun (a : In) ds => ds = rowI a ∧ (I8.okI a.kind ∧ I8.okI a.k)) (fun ds h => rdb_in ds h) h
    refine ⟨l, .inr ⟨b, off, c, by rw [List.length_map, hl], fun i hi => ?_⟩, fun a ha => ?_⟩
    · have hi' : i < l.length := by simpa using hi
      obtain ⟨_, ds, _, h3, h4, _⟩ := h i hi'
      subst h4
      simp only [List.getElem_map]
      exact ⟨rfl, fun j hj => h3 j hj⟩
    · obtain ⟨i, hi, rfl⟩ := List.mem_iff_getElem.mp ha
      obtain ⟨_, ds, _, _, _, h5⟩ := h i hi
      exact h5
theorem rdb_codes {H : Heap} {m : Nat} {x : Value} (h : Rd Tryz.prog H (m + 4) 27 [x]) : ∃ l : List (List In), Cds H x l ∧ ∀ c ∈ l, ∀ a ∈ c, (I8.okI a.kind ∧ I8.okI a.k) := by
  have c103 : Tryz.prog.cellsOf 103 = 1 := by kernel_rfl
  rcases rd_slice Tryz.underlying27 h c103 with rfl | ⟨b, off, k, c, rfl, _, h⟩
  · exact ⟨[], .inl ⟨rfl, rfl⟩, by simp⟩
  · have hel : ∀ ds, Rd Tryz.prog H (m + 3) 103 ds → ∃ l : List In, ∃ y, ds = [y] ∧ Rws H 6 y (l.map rowI) ∧ ∀ a ∈ l, (I8.okI a.kind ∧ I8.okI a.k) := by
      intro ds hd
      obtain ⟨y, rfl⟩ := rd_one Tryz.underlying103 hd
      obtain ⟨l, h1, h2⟩ := rdb_code hd
      exact ⟨l, y, rfl, h1, h2⟩
    obtain ⟨l, hl, h⟩ := rd_all (Q := fun (l : List In) ds => ∃ y, ds = [y] ∧ Rws H 6 y (l.map rowI) ∧ ∀ a ∈ l, (I8.okI a.kind ∧ I8.okI a.k)) hel h
    refine ⟨l, .inr ⟨b, off, c, by rw [hl], fun i hi => ?_⟩, fun cl hc => ?_⟩
    · obtain ⟨_, ds, _, h3, y, h4, h5, _⟩ := h i hi
      subst h4
      refine ⟨y, ?_, h5⟩
      have := h3 0 (by simp)
      simpa using this
    · obtain ⟨i, hi, rfl⟩ := List.mem_iff_getElem.mp hc
      obtain ⟨_, ds, _, _, y, _, _, h6⟩ := h i hi
      exact h6
theorem rdb_job {H : Heap} {m : Nat} (ds : List Value) (h : Rd Tryz.prog H (m + 5) 29 ds) : ∃ J : Jb, ds = jobC J ∧ Jb0 H J ∧ JbB J := by
  have hl : ds.length = 11 := (Go.Ot.rd_len Tryz.underlying29 h).trans (by kernel_rfl)
  have c43 : Tryz.prog.cellsOf 22 = 1 := by kernel_rfl
  have c44 : Tryz.prog.cellsOf 23 = 1 := by kernel_rfl
  have c47 : Tryz.prog.cellsOf 26 = 6 := by kernel_rfl
  have c48 : Tryz.prog.cellsOf 27 = 1 := by kernel_rfl
  match ds, hl with
  | [w0, w1, w2, w3, w4, w5, w6, w7, w8, w9, w10], _ =>
    have g0 := rd_field Tryz.underlying29 h 0 rfl kc3
    have g1 := rd_field Tryz.underlying29 h 1 rfl c43
    have g2 := rd_field Tryz.underlying29 h 2 rfl c44
    have g3 := rd_field Tryz.underlying29 h 3 rfl kc3
    have g4 := rd_field Tryz.underlying29 h 4 rfl c47
    have g5 := rd_field Tryz.underlying29 h 5 rfl c48
    obtain ⟨a0, q0, _⟩ := rd_int Tryz.underlying3 g0
    obtain ⟨lc, h1, hc⟩ := twosb_of (m := m + 3) Tryz.underlying22 (show Tryz.prog.cellsOf 98 = 2 by kernel_rfl) (fun ds h => rdb_cell (m := m + 1) ds h) g1
    obtain ⟨lr, h2, hr⟩ := twosb_of (m := m + 3) Tryz.underlying23 (show Tryz.prog.cellsOf 101 = 2 by kernel_rfl) (fun ds h => rdb_red (m := m + 1) ds h) g2
    obtain ⟨a3, q3, _⟩ := rd_int Tryz.underlying3 g3
    obtain ⟨S, q4, hS⟩ := rd_shape (m := m + 2) _ g4
    obtain ⟨lk, h5, hk⟩ := rdb_codes (m := m) g5
    simp at q0 q3 q4
    obtain ⟨r0, r1, r2, r3, r4, r5⟩ := q4
    subst q0 q3 r0 r1 r2 r3 r4 r5
    exact ⟨⟨a0, a3, S, lc, lr, lk, w1, w2, w10⟩, rfl, ⟨h1, h2, h5, hS, fun c hc a ha => (hk c hc a ha).1⟩, ⟨hc, hr, fun c hc a ha => (hk c hc a ha).2⟩⟩
theorem rdb_run {H : Heap} (ds : List Value) (h : Rd Tryz.prog H 7 35 ds) : ∃ (J : Jb) (C : Cfg) (a : Option Addr) (n c : Nat), ds = runC J C (.slice a n c) ∧ Jb0 H J ∧ JbB J := by
  have hl : ds.length = 23 := (Go.Ot.rd_len Tryz.underlying35 h).trans (by kernel_rfl)
  have c50 : Tryz.prog.cellsOf 29 = 11 := by kernel_rfl
  have c53 : Tryz.prog.cellsOf 32 = 11 := by kernel_rfl
  have c22 : Tryz.prog.cellsOf 33 = 1 := by kernel_rfl
  have g0 := rd_field Tryz.underlying35 h 0 rfl c50
  have g1 := rd_field Tryz.underlying35 h 1 rfl c53
  have g2 := rd_field Tryz.underlying35 h 2 rfl c22
  obtain ⟨J, q0, hJ⟩ := rdb_job (m := 1) _ g0
  obtain ⟨C, q1⟩ := rd_cfg (m := 4) _ g1
  have hx : ∃ a n c, (ds.drop 22).take 1 = [.slice a n c] := by
    obtain ⟨x, hx⟩ := rd_one Tryz.underlying33 g2
    have hx' : (ds.drop 22).take 1 = [x] := hx
    rw [hx] at g2
    rcases rd_slice Tryz.underlying33 g2 (show Tryz.prog.cellsOf 62 = 2 by kernel_rfl) with rfl | ⟨b, off, m, c, rfl, _⟩
    · exact ⟨_, _, _, hx'⟩
    · exact ⟨_, _, _, hx'⟩
  obtain ⟨a, n, c, q2⟩ := hx
  refine ⟨J, C, a, n, c, ?_, hJ⟩
  have q0 : (ds.drop 0).take 11 = jobC J := q0
  have q1 : (ds.drop 11).take 11 = cfgC C := q1
  rw [runC_eq, ← q0, ← q1, ← q2, List.drop_zero]
  have e1 : ds = ds.take 11 ++ ds.drop 11 := (List.take_append_drop 11 ds).symm
  have e2 : ds.drop 11 = (ds.drop 11).take 11 ++ ds.drop 22 := by
    have := (List.take_append_drop 11 (ds.drop 11)).symm
    rw [List.drop_drop] at this
    exact this
  have e3 : ds.drop 22 = (ds.drop 22).take 1 := by rw [List.take_of_length_le (by rw [List.length_drop]; omega)]
  rw [List.append_assoc, ← e3, ← e2, ← e1]
theorem rdb_run2 {H : Heap} (ds : List Value) (h : Rd Tryz.prog H 7 35 ds) : ∃ (J : Jb) (C : Cfg) (a : Option Addr) (c : Nat) (l : List Ent), ds = runC J C (.slice a l.length c) ∧ (Jb0 H J ∧ JbB J) ∧ Rl H (.slice a l.length c) l ∧ ∀ e ∈ l, -9223372036854775808 ≤ e.1 ∧ e.1 ≤ 9223372036854775807 := by
  obtain ⟨J, C, a, n, c, rfl, hJ⟩ := rdb_run ds h
  have c33 : Tryz.prog.cellsOf 33 = 1 := by kernel_rfl
  have g2 := rd_field Tryz.underlying35 h 2 rfl c33
  have g2 : Rd Tryz.prog H (3 + 3) 33 [.slice a n c] := g2
  obtain ⟨l, hl, hb⟩ := rd_ents (m := 3) g2
  obtain ⟨a', c', he⟩ := hl.len
  simp only [Value.slice.injEq] at he
  obtain ⟨_, rfl, _⟩ := he
  exact ⟨J, C, a, c, l, rfl, hJ, hl, hb⟩
end Go.Proofs.YtnomffikflfilaaGreat
namespace Go.Proofs.YtnomffikflfilaaGreat
open Go.Ot Go.RowKit
open E8 (WR AF encU zz uint_T int_T text_T flag_T bytes_T encS encode_T Off Off.af AF.beside encU_len zz_lt encU_b strB sb)
set_option linter.unusedSimpArgs false
set_option linter.unusedVariables false
structure PW (H0 H : Heap) (p : Nat) (bs : List Nat) (x : Value) : Prop where
  on : On H0 H
  wr : WR H p bs x
  lp : H0.next ≤ p
  lx : ∀ b, blkOf x = some b → H0.next ≤ b
theorem PW.af {H0 H H' : Heap} {p : Nat} {bs bs' : List Nat} {x x' : Value} (h : PW H0 H p bs x) (a : AF H H' p x bs' x') : PW H0 H' p bs' x' := by
  have hn := h.on.next
  refine ⟨⟨a.wf, a.base.trans h.on.base, Nat.le_trans hn a.next, fun b hb => ?_⟩, a.wr, h.lp, fun b hb => ?_⟩
  · rw [a.same b (Nat.lt_of_lt_of_le hb hn) (by have := h.lp; omega) (fun e => by have := h.lx b e; omega), h.on.keep b hb]
  · rcases a.old b hb with e | e
    · exact h.lx b e
    · omega
theorem PW.grow {H0 H H' : Heap} {p : Nat} {bs : List Nat} {x : Value} (h : PW H0 H p bs x) (o : On H H') : PW H0 H' p bs x :=
  ⟨h.on.trans o, h.wr.keep h.on.wf (B_eq o.base) o.keep, h.lp, h.lx⟩
theorem AF.on {H H1 H2 : Heap} {p : Nat} {x x1 : Value} {bs : List Nat} (a : AF H H1 p x bs x1) (o : On H1 H2) : AF H H2 p x bs x1 := AF.beside a o.base o.next o.wf o.keep
theorem Vr.af {H H1 : Heap} {p v ty n : Nat} {cs : List Value} {x x1 : Value} {bs : List Nat} (h : Vr H v ty n cs) (o : Off H p x v) (a : AF H H1 p x bs x1) : Vr H1 v ty n cs := h.keep a.base (Off.af o a).2
def runLen (e : Ent) : List Ent → Nat
  | [] => 0
  | f :: l => if f = e then runLen e l + 1 else 0
theorem runLen_eq (e : Ent) : ∀ (l : List Ent) (n : Nat), n ≤ l.length → (∀ (m : Nat) (h : m < l.length), m < n → l[m] = e) → (∀ h : n < l.length, l[n] ≠ e) → runLen e l = n
  | [], n, h, _, _ => by simp at h; simp [runLen, h]
  | f :: l, 0, h, _, h2 => by
    have := h2 (by simp)
    simp at this
    simp [runLen, this]
  | f :: l, n + 1, h, h1, h2 => by
    have e0 := h1 0 (by simp) (by omega)
    simp at e0
    rw [runLen, if_pos e0, runLen_eq e l n (by simpa using h) (fun m hm hmn => by have := h1 (m + 1) (by simp; omega) (by omega); simpa using this) (fun hn => by have := h2 (by simp; omega); simpa using this)]
def encR : Nat → List Ent → List Nat
  | 0, _ => []
  | _ + 1, [] => []
  | n + 1, e :: l => encU (runLen e (e :: l)) ++ encU (zz e.1) ++ [if e.2 then 1 else 0] ++ encR n ((e :: l).drop (runLen e (e :: l)))
theorem encR_more : ∀ (n m : Nat) (l : List Ent), l.length ≤ n → n ≤ m → encR m l = encR n l
  | 0, m, l, h, _ => by
    have : l = [] := by simpa using h
    subst this
    cases m <;> rfl
  | n + 1, 0, l, h, h2 => by omega
  | n + 1, m + 1, [], h, h2 => rfl
  | n + 1, m + 1, e :: l, h, h2 => by
    rw [encR, encR, encR_more n m _ (by have : 1 ≤ runLen e (e :: l) := by simp [runLen]
                                        simp only [List.length_drop, List.length_cons] at h ⊢; omega) (by omega)]
theorem encR_len : ∀ (n : Nat) (l : List Ent), l.length ≤ 50000 → (∀ e ∈ l, -9223372036854775808 ≤ e.1 ∧ e.1 ≤ 9223372036854775807) → (encR n l).length ≤ 21 * n
  | 0, l, _, _ => by simp [encR]
  | n + 1, [], _, _ => by simp [encR]
  | n + 1, e :: l, hl, hb => by
    have h1 := encR_len n ((e :: l).drop (runLen e (e :: l))) (by simp only [List.length_drop]; omega) (fun a ha => hb a (List.mem_of_mem_drop ha))
    have h3 := zz_lt (hb e (by simp))
    have h2 := encU_len 9 (zz e.1) (by omega)
    have hr : ∀ (l : List Ent), runLen e l ≤ l.length := by
      intro l
      induction l with
      | nil => simp [runLen]
      | cons a l ih => rw [runLen]; split <;> simp <;> omega
    have h4 := hr (e :: l)
    have h5 := encU_len 9 (runLen e (e :: l)) (by omega)
    rw [encR]
    simp only [List.length_append, List.length_cons, List.length_nil]
    omega
def InvRn (x : Value) (l : List Ent) (i : Nat) (e : Ent) (t0 : Tm) (H : Heap) (k : Nat) (t : Tm) (H1 : Heap) : Prop :=
  ∃ j : Nat, j + k = l.length ∧ i ≤ j ∧ t 0 = t0 0 ∧ t 1 = x ∧ t 4 = iv i ∧ t 5 = iv j ∧ (∀ (m : Nat) (h : m < l.length), i ≤ m → m < j → l[m] = e) ∧ H1 = H
theorem run_loop {H : Heap} {x : Value} {l : List Ent} (hx : Rl H x l) (hl : l.length ≤ 50000) {i : Nat} (hi : i < l.length) {Q : Post} {t : Tm} (t1 : t 1 = x) (t4 : t 4 = iv i) (t5 : t 5 = iv i)
    (hE : ∀ j : Nat, i < j → j ≤ l.length → (∀ (m : Nat) (h : m < l.length), i ≤ m → m < j → l[m] = l[i]) → (∀ h : j < l.length, l[j] ≠ l[i]) → ∀ t' : Tm, t' 0 = t 0 → t' 1 = x → t' 4 = iv i → t' 5 = iv j → Q (.exit 2) t' (rdy H)) : wpA Tryz.prog (.loop L36_1) Q t (rdy H) := by
  obtain ⟨e, he⟩ : ∃ e, e = l[i] := ⟨_, rfl⟩
  rw [← he] at hE
  refine loop_at (InvRn x l i e t H) (l.length - i) ?_ ?_
  · exact ⟨i, by omega, Nat.le_refl _, rfl, t1, t4, t5, fun m h h1 h2 => by omega, rfl⟩
  rintro k tt H2 ⟨j, hjk, hij, u0, u1, u4, u5, hall, rfl⟩
  obtain ⟨q, off, c, hxb, lde, _, _⟩ := hx.get hi
  rw [← he] at lde
  have hiI : (i : Int) < (l.length : Int) := by omega
  by_cases hjl : j < l.length
  · obtain ⟨q2, off2, c2, hxb2, ldj, _, _⟩ := hx.get hjl
    have c3 : (j : Int) < (l.length : Int) := by omega
    have e4 : IntKind.i64.wrap ((j : Int) + 1) = ((j + 1 : Nat) : Int) := by rw [w64 _ (by omega)]; omega
    obtain ⟨jN, hjN⟩ : ∃ n : Nat, n = j + 1 := ⟨_, rfl⟩
    rw [← hjN] at e4
    have hq : q2 = q ∧ off2 = off := by
      rw [hxb] at hxb2
      simp at hxb2
      exact ⟨hxb2.1.1.symm, hxb2.1.2.symm⟩
    obtain ⟨rfl, rfl⟩ := hq
    have u1' := u1.trans hxb
    simp [L36_1, u5, u1', c3, hjl, ldj, u4, hiI, hi, lde]
    rw [wpP_eqR0]
    refine goE_of (by rfl) (by rfl) (eqN l[j] e) ?_
    by_cases hje : l[j] = e
    · simp [hje, u5, e4]
      exact ⟨k - 1, by omega, jN, by omega, by omega, by simp [u0], by simp [u1, ← hxb], by simp [u4], by simp, fun m h h1 h2 => by
        by_cases hmj : m = j
        · subst hmj; exact hje
        · exact hall m h h1 (by omega), rfl⟩
    · have hij2 : i < j := by
        rcases Nat.lt_or_ge i j with h | h
        · exact h
        · exfalso
          have : i = j := by omega
          subst this
          exact hje he.symm
      simp [hje]
      exact hE j hij2 (by omega) hall (fun _ => hje) _ (by simp [u0]) (by simp [u1, ← hxb]) (by simp [u4]) (by simp [u5])
  · have c3 : ¬ (j : Int) < (l.length : Int) := by omega
    have u1' := u1.trans hxb
    simp [L36_1, u5, u1', c3, hjl]
    exact hE j (by omega) (by omega) hall (fun h => absurd h hjl) _ (by simp [u0]) (by simp [u1, ← hxb]) (by simp [u4]) (by simp [u5])
def InvEn (H : Heap) (p : Nat) (x xl : Value) (bs : List Nat) (l : List Ent) (k : Nat) (t : Tm) (H1 : Heap) : Prop :=
  ∃ (i : Nat) (w : List Nat) (x' : Value), i + k = l.length ∧ t 0 = ptr p ∧ t 1 = xl ∧ t 4 = iv i ∧ AF H H1 p x w x' ∧ w ++ encR l.length (l.drop i) = bs ++ encR l.length l
theorem entries_E {H0 H : Heap} (hw0 : H0.WF) {p : Nat} {bs : List Nat} {x : Value} (P : PW H0 H p bs x) (hbl : bs.length ≤ 1000000000) {xl : Value} {l : List Ent} (hx : Rl H0 xl l) (hl : l.length ≤ 50000) (hb : ∀ e ∈ l, -9223372036854775808 ≤ e.1 ∧ e.1 ≤ 9223372036854775807) :
    ∃ v H', T Tryz.prog 36 [ptr p, xl] H v H' ∧ ∃ x', AF H H' p x (bs ++ encU l.length ++ encR l.length l) x' := by
  refine T_by hm light36 ?_
  have hw := P.on.wf
  obtain ⟨xa, xc, hxl⟩ := hx.len
  have lxl : sLenL xl = some (iv l.length) := by rw [hxl]; rfl
  have hrl := encR_len l.length l hl hb
  have e1 : IntKind.u64.wrap (l.length : Int) = (l.length : Int) := wu64 _ (by omega)
  have hul := encU_len 9 l.length (by omega)
  obtain ⟨v1, H1, T1, x1, a1⟩ := uint_T hw P.wr (n := l.length) (by omega) (by omega)
  obtain ⟨b1, hb1⟩ : ∃ b1, b1 = bs ++ encU l.length := ⟨_, rfl⟩
  rw [← hb1] at a1 ⊢
  have hb1l : b1.length ≤ 1000000010 := by rw [hb1, List.length_append]; omega
  simp [L36, lxl, e1]
  refine goT_of T1 ?_
  simp
  refine loop_at (InvEn H p x xl b1 l) l.length ?_ ?_
  · exact ⟨0, b1, x1, by omega, by simp, by simp, by simp, a1, by simp⟩
  rintro k t H2 ⟨i, w, x2, hik, t0, t1, t4, a2, hw2⟩
  have hwl : w.length ≤ 1100000000 := by
    have := congrArg List.length hw2
    simp only [List.length_append] at this
    omega
  have P2 := P.af a2
  have hx2 := hx.on hw0 P2.on
  by_cases hil : i < l.length
  · have hiI : (i : Int) < (l.length : Int) := by omega
    simp [L36_2, t4, t1, lxl, hiI]
    refine run_loop hx2 hl hil (by simp [t1]) (by simp [t4]) (by simp) ?_
    intro j hij hjl hall hend t' u0 u1 u4 u5
    simp [t0] at u0
    obtain ⟨e, he⟩ : ∃ e, e = l[i] := ⟨_, rfl⟩
    rw [← he] at hall hend
    obtain ⟨q, off, c, hxb, lde, lde0, lde1⟩ := hx2.get hil
    rw [← he] at lde lde0 lde1
    have hR : runLen e (l.drop i) = j - i := runLen_eq e (l.drop i) (j - i) (by simp; omega) (fun m h hm => by
      simp only [List.getElem_drop]
      exact hall (i + m) (by simp at h; omega) (by omega) (by omega)) (fun h => by
      simp only [List.getElem_drop]
      have e3 : i + (j - i) = j := by omega
      simp only [e3]
      exact hend (by simp at h; omega))
    have hdr : l.drop i = e :: l.drop (i + 1) := by rw [he]; exact List.drop_eq_getElem_cons hil
    have ew : IntKind.i64.wrap ((j : Int) - (i : Int)) = ((j - i : Nat) : Int) := by rw [w64 _ (by omega)]; omega
    have eu : IntKind.u64.wrap (((j - i : Nat) : Int)) = ((j - i : Nat) : Int) := wu64 _ (by omega)
    obtain ⟨r, hr⟩ : ∃ r : Nat, r = j - i := ⟨_, rfl⟩
    rw [← hr] at ew eu hR
    have hul2 := encU_len 9 r (by omega)
    obtain ⟨v3, H3, T3, x3, a3⟩ := uint_T a2.wf a2.wr (n := r) (by omega) (by omega)
    have P3 := P2.af a3
    have hlen3 : (w ++ encU r).length ≤ 1100000010 := by rw [List.length_append]; omega
    have he1 := hb e (by rw [he]; exact List.getElem_mem hil)
    have hz := zz_lt he1
    have hul3 := encU_len 9 (zz e.1) (by omega)
    obtain ⟨v4, H4, T4, x4, a4⟩ := int_T a3.wf a3.wr (n := e.1) he1 (by omega)
    have P4 := P3.af a4
    have hlen4 : (w ++ encU r ++ encU (zz e.1)).length ≤ 1100000020 := by rw [List.length_append]; omega
    obtain ⟨v5, H5, T5, x5, a5⟩ := flag_T a4.wf a4.wr e.2 (by omega)
    have hx3 := hx.on hw0 P3.on
    have hx4 := hx.on hw0 P4.on
    obtain ⟨q3, off3, c3, hxb3, _, lde03, _⟩ := hx3.get hil
    obtain ⟨q4, off4, c4, hxb4, _, _, lde14⟩ := hx4.get hil
    rw [← he] at lde03 lde14
    have u1a := u1.trans hxb3
    have u1b := u1.trans hxb4
    simp [u0, u5, u4, ew, eu]
    refine goT_of T3 ?_
    simp [u0, u4, u1a, hil, hiI, lde03]
    refine goT_of T4 ?_
    have u1b' := hxb3.symm.trans hxb4
    simp only [Value.slice.injEq, Option.some.injEq, Addr.mk.injEq] at u1b'
    obtain ⟨⟨rfl, rfl, _⟩, _, rfl⟩ := u1b'
    simp [u0, u4, u1a, hil, hiI, lde14]
    refine goT_of T5 ?_
    simp [u5]
    refine ⟨l.length - j, by omega, j, _, x5, by omega, by simp [u0], by simp [u1], by simp, a2.trans (a3.trans (a4.trans a5)), ?_⟩
    rw [← hw2, hdr]
    have hpos : 0 < l.length := by omega
    obtain ⟨n, hn⟩ : ∃ n, l.length = n + 1 := ⟨l.length - 1, by omega⟩
    rw [hn, encR, ← hdr, hR]
    have hdd : (l.drop i).drop r = l.drop j := by rw [List.drop_drop]; congr 1; omega
    rw [hdd, ← encR_more n (n + 1) (l.drop j) (by simp; omega) (by omega)]
    simp only [List.append_assoc]
  · have c1 : ¬ (i : Int) < (l.length : Int) := by omega
    have e2 : l.drop i = [] := by rw [List.drop_eq_nil_iff]; omega
    rw [e2] at hw2
    have e3 : encR l.length [] = [] := by cases l.length <;> rfl
    rw [e3, List.append_nil] at hw2
    simp [L36_2, t4, t1, lxl, c1]
    exact ⟨x2, by rw [← hw2]; exact a2⟩
end Go.Proofs.YtnomffikflfilaaGreat
namespace Go.Proofs.YtnomffikflfilaaGreat
open Go.Ot Go.RowKit
open E8 (WR AF encU zz uint_T int_T text_T flag_T bytes_T encS encode_T Off Off.af AF.beside encU_len zz_lt encU_b strB sb)
set_option linter.unusedSimpArgs false
set_option linter.unusedVariables false
abbrev pts (v : Nat) : List Value := [.pointer (some ⟨v, 0, none⟩), .pointer (some ⟨v, 1, none⟩), .pointer (some ⟨v, 2, none⟩), .pointer (some ⟨v, 3, none⟩), .pointer (some ⟨v, 4, none⟩), .pointer (some ⟨v, 5, none⟩), .pointer (some ⟨v, 6, none⟩), .pointer (some ⟨v, 7, none⟩), .pointer (some ⟨v, 8, none⟩), .pointer (some ⟨v, 9, none⟩)]
theorem pts_get (v : Nat) {i : Nat} (hi : i < 10) : (pts v)[i]? = some (.pointer (some ⟨v, i, none⟩)) := by
  match i, hi with
  | 0, _ => rfl
  | 1, _ => rfl
  | 2, _ => rfl
  | 3, _ => rfl
  | 4, _ => rfl
  | 5, _ => rfl
  | 6, _ => rfl
  | 7, _ => rfl
  | 8, _ => rfl
  | 9, _ => rfl
theorem numbers_E {H : Heap} (hw : H.WF) (v : Nat) : TE Tryz.prog 53 [ptr v] H (fun o H' => o = .ret (.agg (pts v).toArray) ∧ On H H') := by
  refine TE_by hm light53 ?_
  obtain ⟨HA, hHA⟩ : ∃ HA, HA = H.new 122 10 [.pointer none, .pointer none, .pointer none, .pointer none, .pointer none, .pointer none, .pointer none, .pointer none, .pointer none, .pointer none] := ⟨_, rfl⟩
  have onA : On H HA := by rw [hHA]; exact (On.refl hw).new _ _ _
  have vA : Vr HA H.next 122 10 [.pointer none, .pointer none, .pointer none, .pointer none, .pointer none, .pointer none, .pointer none, .pointer none, .pointer none, .pointer none] := by rw [hHA]; exact Vr.mk' hw _ _ _
  have sA := vA.storeA (m := 10) (by decide) (pts v) rfl rfl
  obtain ⟨HB, hHB⟩ : ∃ HB, HB = HA.put H.next (pts v) := ⟨_, rfl⟩
  have lB : HB.loadN ⟨H.next, 0, none⟩ 0 10 = some (pts v) := by rw [hHB]; exact (vA.put _).loadA rfl
  have onB : On H HB := by rw [hHB]; exact onA.put (Nat.le_refl _) _
  rw [← hHB] at sA
  simp [L53, ← hHA, sA, lB]
  exact onB
def ten (C : Cfg) : List Int := [C.workers, C.window, C.policy, C.chunk, C.reads, C.writes, C.outs, C.arena, C.edges, C.retry]
theorem ten_cfg (C : Cfg) {i : Nat} (hi : i < 10) : (cfgC C)[i]? = some (iv ((ten C).getD i 0)) := by
  match i, hi with
  | 0, _ => rfl
  | 1, _ => rfl
  | 2, _ => rfl
  | 3, _ => rfl
  | 4, _ => rfl
  | 5, _ => rfl
  | 6, _ => rfl
  | 7, _ => rfl
  | 8, _ => rfl
  | 9, _ => rfl
theorem ten_ok {C : Cfg} (h : rightE C = 0) : ∀ n ∈ ten C, 0 ≤ n ∧ n ≤ 512 := by
  unfold rightE at h
  split at h
  · cases h
  rename_i h1
  split at h
  · cases h
  rename_i h2
  split at h
  · cases h
  rename_i h3
  split at h
  · cases h
  rename_i h4
  simp only [manyV, outV, Bool.or_eq_true, decide_eq_true_eq, not_or] at h1 h2 h3 h4
  intro n hn
  simp only [ten, List.mem_cons, List.not_mem_nil, or_false] at hn
  rcases hn with rfl | rfl | rfl | rfl | rfl | rfl | rfl | rfl | rfl | rfl <;> omega
def encC (C : Cfg) : List Nat := (ten C).flatMap (fun n => encU n.toNat) ++ [if C.force then 1 else 0]
theorem flatMap_len {α : Type} {g : α → List Nat} {k : Nat} : ∀ (l : List α), (∀ a ∈ l, (g a).length ≤ k) → (l.flatMap g).length ≤ k * l.length
  | [], _ => by simp
  | a :: l, h => by
    have h1 := h a (by simp)
    have h2 := flatMap_len l (fun b hb => h b (by simp [hb]))
    rw [List.flatMap_cons, List.length_append, List.length_cons, Nat.mul_succ]
    omega
theorem flatMap_take {α : Type} (g : α → List Nat) (l : List α) {i : Nat} (hi : i < l.length) : (l.take (i + 1)).flatMap g = (l.take i).flatMap g ++ g l[i] := by
  rw [List.take_succ_eq_append_getElem hi, List.flatMap_append]
  simp
def InvCf (H : Heap) (p v : Nat) (x : Value) (bs : List Nat) (C : Cfg) (k : Nat) (t : Tm) (H1 : Heap) : Prop :=
  ∃ (i : Nat) (x' : Value), i + k = 10 ∧ t 0 = ptr p ∧ t 3 = ptr v ∧ t 6 = .agg (pts v).toArray ∧ t 7 = iv i ∧ AF H H1 p x (bs ++ ((ten C).take i).flatMap (fun n => encU n.toNat)) x'
theorem config_E {H0 H : Heap} {p : Nat} {bs : List Nat} {x : Value} (P : PW H0 H p bs x) (hbl : bs.length ≤ 1000000000) {C : Cfg} (hr : rightE C = 0) :
    ∃ v H', T Tryz.prog 35 [ptr p, .agg (cfgC C).toArray] H v H' ∧ ∃ x', AF H H' p x (bs ++ encC C) x' := by
  refine T_by hm light35 ?_
  have hw := P.on.wf
  have hten := ten_ok hr
  obtain ⟨HA, hHA⟩ : ∃ HA, HA = H.new 32 11 (cfgC C) := ⟨_, rfl⟩
  have onA : On H HA := by rw [hHA]; exact (On.refl hw).new _ _ _
  have vA : Vr HA H.next 32 11 (cfgC C) := by rw [hHA]; exact Vr.mk' hw _ _ _
  have wA := onA.wf
  have nE := numbers_E wA H.next
  have hHA2 : H.new 32 11 [iv C.workers, iv C.window, iv C.policy, iv C.chunk, iv C.reads, iv C.writes, iv C.outs, iv C.arena, iv C.edges, iv C.retry, .bool C.force] = HA := hHA.symm
  have ppn := hw.lt P.wr.bp
  simp [L35, hHA2]
  refine goA_of wA nE ?_
  rintro o HB ⟨rfl, onB⟩ wB bB nB
  have vB := vA.on wA onB
  have onHB := onA.trans onB
  have WB : WR HB p bs x := P.wr.keep hw (B_eq onHB.base) onHB.keep
  have offB : Off HB p x H.next := ⟨wB.lt vB.bq, by omega, fun e => by have := P.wr.own.lt hw e; omega⟩
  have ten10 : (ten C).length = 10 := rfl
  have aH : AF H HB p x bs x := AF.on (Aft.refl hw P.wr) onHB
  simp
  refine loop_at (InvCf HB p H.next x bs C) 10 ?_ ?_
  · exact ⟨0, x, by omega, by simp, by simp, by simp, by simp, by simpa using Aft.refl wB WB⟩
  rintro k t H1 ⟨i, x1, hik, t0, t3, t6, t7, a1⟩
  have v1 := Vr.af vB offB a1
  have hfl := flatMap_len (k := 10) ((ten C).take i) (g := fun n => encU n.toNat) (fun n hn => encU_len 9 _ (by have := hten n (List.mem_of_mem_take hn); omega))
  have htl : ((ten C).take i).length ≤ 10 := by rw [List.length_take]; omega
  have hwl : (bs ++ ((ten C).take i).flatMap (fun n => encU n.toNat)).length ≤ 1000000100 := by rw [List.length_append]; omega
  cases k with
  | zero =>
    have ei : i = 10 := by omega
    have l10 : H1.load ⟨H.next, 10, none⟩ = some (.bool C.force) := v1.load 10
    obtain ⟨v2, H2, T2, x2, a2⟩ := flag_T a1.wf a1.wr C.force (by omega)
    simp [L35_1, t7, ei, t0, t3, l10]
    refine goT_of T2 ?_
    simp
    refine ⟨x2, aH.trans ?_⟩
    have e2 : (ten C).take i = ten C := by rw [ei]; exact List.take_of_length_le (by rw [ten10]; omega)
    rw [e2] at a1 a2
    have := a1.trans a2
    unfold encC
    rw [← List.append_assoc]
    exact this
  | succ k =>
    have hi : i < 10 := by omega
    have hiI : (i : Int) < 10 := by omega
    have hi0 : (0 : Int) ≤ (i : Int) := by omega
    obtain ⟨n, hn⟩ : ∃ n, n = (ten C)[i]'(by rw [ten10]; exact hi) := ⟨_, rfl⟩
    have hnm : n ∈ ten C := by rw [hn]; exact List.getElem_mem _
    have hn0 := hten n hnm
    have ld : H1.load ⟨H.next, i, none⟩ = some (iv n) := by
      rw [v1.load i, ten_cfg C hi, hn]
      simp [List.getD, hi, ten10]
    have ix : sIdxAgg false 10 1 (.agg (pts H.next).toArray) (iv i) = some (.pointer (some ⟨H.next, i, none⟩)) := by
      simp only [sIdxAgg]
      rw [if_pos ⟨hi0, hiI⟩]
      have := pts_get H.next hi
      simpa [sPart] using this
    obtain ⟨m, hm0⟩ : ∃ m : Nat, n = (m : Int) := ⟨n.toNat, by omega⟩
    have eu : IntKind.u64.wrap n = (m : Int) := by rw [hm0]; exact wu64 _ (by omega)
    obtain ⟨v2, H2, T2, x2, a2⟩ := uint_T a1.wf a1.wr (n := m) (by omega) (by omega)
    have e4 : IntKind.i64.wrap ((i : Int) + 1) = ((i + 1 : Nat) : Int) := by rw [w64 _ (by omega)]; omega
    obtain ⟨iN, hiN⟩ : ∃ z : Nat, z = i + 1 := ⟨_, rfl⟩
    rw [← hiN] at e4
    simp [L35_1, t7, hiI, t6, ix, t0, ld, eu]
    refine goT_of T2 ?_
    simp [t7, e4]
    refine ⟨k, by omega, iN, x2, by omega, by simp [t0], by simp [t3], by simp [t6], by simp, ?_⟩
    rw [hiN, flatMap_take _ _ (by rw [ten10]; exact hi), ← hn, ← List.append_assoc]
    have e5 : n.toNat = m := by omega
    rw [e5]
    exact a1.trans a2
end Go.Proofs.YtnomffikflfilaaGreat
