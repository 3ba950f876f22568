/-
  Chapter 29: FlowLists.
-/
import Derived.Test.YtfmcnojojknkfaaSeatG
namespace Go.Proofs.Ytfmcnojojknkfaa
open Go.Ot Go.RowKit Go.Fl
set_option linter.unusedSimpArgs false
set_option linter.unusedVariables false
/-- A list of tasks with its rows at hand. -/
structure TkV (H : Heap) (x : Value) (L : List Tk) (V : List (List Value)) : Prop where
  rws : Rws H 5 x V
  len : V.length = L.length
  row : ∀ i (h : i < L.length) (h' : i < V.length), TkR H L[i] V[i]
theorem TkV.list {H : Heap} {x : Value} {L : List Tk} {V : List (List Value)} (h : TkV H x L V) : TkL H x L := ⟨V, h.rws, h.len, h.row⟩
theorem TkV.len5 {H : Heap} {x : Value} {L : List Tk} {V : List (List Value)} (h : TkV H x L V) : ∀ r ∈ V, r.length = 5 := by
  intro r hr
  obtain ⟨i, hi, rfl⟩ := List.getElem_of_mem hr
  obtain ⟨u, v, w, e, _⟩ := h.row i (by have := h.len; omega) hi
  rw [e]; rfl
theorem TkV.at {H : Heap} {x : Value} {L : List Tk} {V : List (List Value)} (h : TkV H x L V) {i : Nat} (hi : i < L.length) (hv : i < V.length) : ∃ b off c u v w, V[i] = [iv L[i].age, u, v, w, iv L[i].deep] ∧ TkA H x L i L[i] b off c u v w := by
  obtain ⟨u, v, w, e, p, q, r⟩ := h.row i hi hv
  obtain ⟨b, off, c, hx, g1, g2, g3⟩ := h.rws.at (i := i) hv
  rw [e] at g2
  have g (j : Nat) (hj : j < 5) : H.load ⟨b, off + i * 5 + j, none⟩ = [iv L[i].age, u, v, w, iv L[i].deep][j]? := by
    have hj' : j < V[i].length := by rw [e]; exact hj
    rw [g3 j hj', ← List.getElem?_eq_getElem, e]
  exact ⟨b, off, c, u, v, w, e, by rw [hx, h.len], g2, g 0 (by decide), g 1 (by decide), g 2 (by decide), g 3 (by decide), g 4 (by decide), p, q, r⟩
/-- All numbers of a task may be words. -/
structure TkW (t : Tk) : Prop where
  age : okI t.age
  deep : okI t.deep
  rd : ∀ n ∈ t.reads, okI n
  wr : ∀ n ∈ t.writes, okI n
  fr : ∀ n ∈ t.from', okI n
theorem z5 : zerosA [Value.int IntKind.i64 0, .slice none 0 0, .slice none 0 0, .slice none 0 0, .int .i64 0] 5 = [.int .i64 0, .slice none 0 0, .slice none 0 0, .slice none 0 0, .int .i64 0] := rfl
theorem z51 : zerosA [Value.int IntKind.i64 0, .slice none 0 0, .slice none 0 0, .slice none 0 0, .int .i64 0] 1 = [.int .i64 0] := rfl
theorem chainGo_len (L : List Tk) (next : Int → Int) : ∀ (k : Nat) (o : Option Nat) (out : List Int), out.length ≤ L.length → (chainGo L next k o out).length ≤ L.length
  | k, none, out, h => by cases k <;> exact h
  | 0, some _, out, h => by simp [chainGo]
  | k + 1, some i, out, h => by
    rw [chainGo]
    split
    · rename_i t ht
      split
      · simp
      · rename_i hc
        exact chainGo_len L next k _ _ (by omega)
    · simp
theorem chainV_len (L : List Tk) : (chainV L).length ≤ L.length := chainGo_len L nxt _ _ [] (by simp)
def shortT (t : Tk) : Prop := t.reads.length ≤ 50 ∧ t.writes.length ≤ 50 ∧ t.from'.length ≤ 50
def InvLw (H : Heap) (x : Value) (L : List Tk) (V : List (List Value)) (k : Nat) (t : Tm) (H1 : Heap) : Prop :=
  ∃ i y, i + k = L.length ∧ t 0 = x ∧ t 4 = iv i ∧ t 3 = y ∧ Row H H1 27 5 i (V.take i).flatten y ∧ ∀ j (h : j < L.length), j < i → shortT L[j]
theorem lists_T {H : Heap} (hw : H.WF) {x : Value} {L : List Tk} (hL : TkL H x L) (ok : ∀ t ∈ L, TkW t) : T Try.prog 3 [x] H (.bool true) H := by
  obtain ⟨V, hV⟩ : ∃ V, TkV H x L V := by obtain ⟨V, h1, h2, h3⟩ := hL; exact ⟨V, h1, h2, h3⟩
  refine T_seen hm light3 rfl ?_
  obtain ⟨a, c, hxa⟩ := hL.len
  by_cases hl : 100 < L.length
  · have hlI : (100 : Int) < (L.length : Int) := by omega
    rw [hxa]
    simp [L3, hl, hlI]
  have hlI : ¬ (100 : Int) < (L.length : Int) := by omega
  rw [hxa]
  simp [L3, hl, hlI]
  rw [← hxa]
  refine loop_at (InvLw H x L V) L.length ?_ ?_
  · exact ⟨0, .slice none 0 0, by omega, by simp, by simp, by simp, Row.nil hw 27 5, fun j _ h => absurd h (by omega)⟩
  · rintro k t H1 ⟨i, y, hik, t0, t4, t3, row, hsh⟩
    cases k with
    | zero =>
      have e1 : ¬ ((i : Int) < L.length) := by omega
      have hi : i = L.length := by omega
      have hVi : V.length = i := by rw [hV.len, hi]
      rw [List.take_of_length_le (by omega)] at row
      have on1 := row.on
      have hx1 := hL.on hw on1
      have hy1 : TkL H1 y L := by
        refine ⟨V, Own.rws hV.len5 (by rw [hVi]; exact row.own), hV.len, fun j hj hj' => ?_⟩
        obtain ⟨u, v, w, e, p, q, r⟩ := hV.row j hj hj'
        exact ⟨u, v, w, e, Ints.on hw p on1, Ints.on hw q on1, Ints.on hw r on1⟩
      have oks : ∀ t ∈ L, TkOk t := by
        intro t ht
        have o := ok t ht
        obtain ⟨j, hj, rfl⟩ := List.getElem_of_mem ht
        obtain ⟨s1, s2, s3⟩ := hsh j hj (by omega)
        exact ⟨o.age, o.deep, o.rd, o.wr, o.fr, s1, s2, s3⟩
      have hf : ∀ t ∈ L, t.from'.length ≤ 50 := fun t ht => (oks t ht).lf
      obtain ⟨ay, hy⟩ := row.own.len
      have t0' := t0
      rw [hxa] at t0
      simp [L3_1, t0, t4, e1]
      rw [← hxa]
      refine goA_of on1.wf (wide_E on1.wf hx1 (by omega)) ?_
      rintro _ H2 ⟨z1, rfl, r2⟩ w2 b2 n2
      simp [t3]
      refine goA_of w2 (docWide_E w2 (hy1.on on1.wf r2.on) (by omega)) ?_
      rintro _ H3 ⟨z2, rfl, r3⟩ w3 b3 n3
      have i1 : Ints H3 .i64 z1 (wideV L) := Ints.on w2 r2.own.ints r3.on
      have i2 : Ints H3 .i64 z2 (wideV L) := r3.own.ints
      have hwl : (wideV L).length ≤ 100000 := by have := topV_le L; rw [wideV, wideN_len]; omega
      have g1 := row_T i1 i2 hwl
      simp only [decide_true] at g1
      have on3 := on1.trans (r2.on.trans r3.on)
      simp
      refine goT_of g1 ?_
      simp [t0']
      refine goA_of w3 (chain_E w3 (hL.on hw on3) (by omega) hf) ?_
      rintro _ H4 ⟨z3, rfl, i3, on4⟩ w4 b4 n4
      simp [t3]
      have ony4 := r2.on.trans (r3.on.trans on4)
      refine goA_of w4 (docChain_E w4 (hy1.on on1.wf ony4) (by omega) hf) ?_
      rintro _ H5 ⟨z4, rfl, i4, on5⟩ w5 b5 n5
      have hcl : (chainV L).length ≤ 100000 := by have := chainV_len L; omega
      have g2 := row_T (Ints.on w4 i3 on5) i4 hcl
      simp only [decide_true] at g2
      simp
      refine goT_of g2 ?_
      have onx5 := on3.trans (on4.trans on5)
      have ony5 := ony4.trans on5
      have tx := flowText_T w5 (hL.on hw onx5) (by omega) oks
      have ty := docText_T w5 (hy1.on on1.wf ony5) (by omega) oks
      simp [t0']
      refine goT_of tx ?_
      simp [t3]
      refine goT_of ty ?_
      simp [str_eql]
      refine goT_of (alive_T H5) ?_
      simp
      exact onx5.keep
    | succ k =>
      have hil : i < L.length := by omega
      have e1 : ((i : Int) < L.length) := by omega
      have e4 : IntKind.i64.wrap ((i : Int) + 1) = ((i + 1 : Nat) : Int) := by rw [w64 _ (by omega)]; omega
      obtain ⟨iN, hiN⟩ : ∃ n : Nat, n = i + 1 := ⟨_, rfl⟩
      have hvl : i < V.length := by rw [hV.len]; exact hil
      have hTV : (V.take iN).flatten = (V.take i).flatten ++ V[i] := by
        rw [hiN, List.take_add_one, List.getElem?_eq_getElem hvl]
        simp only [Option.toList_some, List.flatten_append, List.flatten_cons, List.flatten_nil, List.append_nil]
      rw [← hiN] at e4
      obtain ⟨b, off, c', u, v, w, hrow, A0⟩ := hV.at hil hvl
      have A := A0.on hw row.on
      obtain ⟨tk, htk⟩ : ∃ tk, tk = L[i] := ⟨_, rfl⟩
      rw [← htk] at A hrow
      obtain ⟨au, cu, hu⟩ := A.iu.len
      obtain ⟨av, cv, hv⟩ := A.iw.len
      obtain ⟨az, cz, hz⟩ := A.iz.len
      have c0 := A.c0
      have c1 := A.c1
      have c2 := A.c2
      have c3 := A.c3
      have c4 := A.c4
      rw [hu] at c1
      rw [hv] at c2
      rw [hz] at c3
      rw [hu, hv, hz] at hrow
      have t0' := t0
      rw [A.hx] at t0
      by_cases s1 : 50 < tk.reads.length
      · have s1I : (50 : Int) < (tk.reads.length : Int) := by omega
        simp [L3_1, t0, t4, e1, hil, c1, s1, s1I]
        exact row.on.keep
      have s1I : ¬ (50 : Int) < (tk.reads.length : Int) := by omega
      by_cases s2 : 50 < tk.writes.length
      · have s2I : (50 : Int) < (tk.writes.length : Int) := by omega
        simp [L3_1, t0, t4, e1, hil, c1, c2, s1, s1I, s2, s2I]
        exact row.on.keep
      have s2I : ¬ (50 : Int) < (tk.writes.length : Int) := by omega
      by_cases s3 : 50 < tk.from'.length
      · have s3I : (50 : Int) < (tk.from'.length : Int) := by omega
        simp [L3_1, t0, t4, e1, hil, c1, c2, c3, s1, s1I, s2, s2I, s3, s3I]
        exact row.on.keep
      have s3I : ¬ (50 : Int) < (tk.from'.length : Int) := by omega
      obtain ⟨z, H3, ap, row3⟩ := row_push (e := V[i]) 88 row (hV.len5 _ (List.getElem_mem hvl)) (by decide) (by omega)
      rw [← hTV, ← hiN] at row3
      rw [hrow] at ap
      simp [L3_1, t0, t4, e1, hil, c0, c1, c2, c3, c4, s1, s1I, s2, s2I, s3, s3I, t3, z5, z51, ap, e4]
      refine ⟨k, by omega, iN, z, by omega, by simp [t0'], by simp, by simp, row3, fun j hj hji => ?_⟩
      by_cases hjj : j = i
      · subst hjj
        rw [← htk]
        exact ⟨by omega, by omega, by omega⟩
      · exact hsh j hj (by omega)
end Go.Proofs.Ytfmcnojojknkfaa
