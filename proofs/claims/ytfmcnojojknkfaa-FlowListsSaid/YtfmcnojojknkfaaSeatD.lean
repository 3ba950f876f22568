/-
  Chapter 29: numbers behind a word; a line a task, by both.
-/
import Derived.Test.YtfmcnojojknkfaaSeatC
namespace Go.Proofs.Ytfmcnojojknkfaa
open Go.Ot Go.RowKit Go.Fl
set_option linter.unusedSimpArgs false
set_option linter.unusedVariables false
theorem ints_len : ∀ l : List Int, (ints decI l).length ≤ 22 * l.length
  | [] => by simp [ints]
  | n :: l => by
    have := ints_len l
    have h := decI_len n
    simp only [ints, List.flatMap_cons, List.length_append, List.length_cons] at this ⊢
    omega
theorem ints_snoc (l : List Int) (n : Int) : ints decI (l ++ [n]) = ints decI l ++ 32 :: decI n := by simp [ints]
theorem ints_take {l : List Int} {i : Nat} (hi : i < l.length) : ints decI (l.take (i + 1)) = ints decI (l.take i) ++ 32 :: decI l[i] := by
  rw [List.take_add_one, List.getElem?_eq_getElem hi, Option.toList_some, ints_snoc]
theorem space_add (S : List Nat) (h : S.length ≤ 1000000) : sBin .add (.string ⟨#[32]⟩) (.string (strB S)) = some (.string (strB (32 :: S))) := strB_add [32] S (by simp; omega)
def InvN9 (H : Heap) (x : Value) (W : List Nat) (l : List Int) (k : Nat) (t : Tm) (H1 : Heap) : Prop :=
  ∃ i, i + k = l.length ∧ t 7 = x ∧ t 8 = iv l.length ∧ t 9 = iv i ∧ t 0 = .string (strB (W ++ ints decI (l.take i))) ∧ H1 = H
theorem rowW_T {H : Heap} (hw : H.WF) {x : Value} {l : List Int} (hx : Ints H .i64 x l) (hl : l.length ≤ 50) (ho : ∀ n ∈ l, okI n) (W : List Nat) (hW : W.length ≤ 1000) : T Try.prog 19 [.string (strB W), x] H (.string (strB (W ++ ints decI l))) H := by
  refine T_eq hm light19 ?_
  obtain ⟨a, c, hxa⟩ := hx.len
  rw [hxa]
  simp [L19]
  rw [← hxa]
  refine loop_at (InvN9 H x W l) l.length ?_ ?_
  · exact ⟨0, by omega, by simp, by simp, by simp, by simp [ints], rfl⟩
  · rintro k t H1 ⟨i, hik, t7, t8, t9, t0, rfl⟩
    cases k with
    | zero =>
      have e1 : ¬ ((i : Int) < l.length) := by omega
      rw [List.take_of_length_le (by omega)] at t0
      simp [L19_1, t8, t9, e1, t0]
    | succ k =>
      have hil : i < l.length := by omega
      have e1 : ((i : Int) < l.length) := by omega
      have e4 : IntKind.i64.wrap ((i : Int) + 1) = ((i + 1 : Nat) : Int) := by rw [w64 _ (by omega)]; omega
      obtain ⟨iN, hiN⟩ : ∃ n : Nat, n = i + 1 := ⟨_, rfl⟩
      have hT : ints decI (l.take iN) = ints decI (l.take i) ++ 32 :: decI l[i] := by rw [hiN]; exact ints_take hil
      rw [← hiN] at e4
      obtain ⟨b, off, c', hxb, ld⟩ := hx.at hil
      have t7' := t7
      rw [hxb] at t7
      have hn := ho l[i] (List.getElem_mem hil)
      obtain ⟨n, hnv⟩ : ∃ n, n = l[i] := ⟨_, rfl⟩
      rw [← hnv] at ld hn hT
      obtain ⟨S, hS⟩ : ∃ S, S = W ++ ints decI (l.take i) := ⟨_, rfl⟩
      rw [← hS] at t0
      have hSl : S.length ≤ 10000 := by
        have := ints_len (l.take i)
        rw [hS, List.length_append]
        have : (l.take i).length ≤ 50 := by rw [List.length_take]; omega
        omega
      have dl := decI_len n
      have a1 := space_add (decI n) (by omega)
      have a2 := strB_add S (32 :: decI n) (by simp; omega)
      simp [L19_1, t8, t9, e1, t7, hil, ld, t0]
      refine goT_of (textK hw hn) ?_
      simp [a1, a2, t9, e4]
      exact ⟨k, by omega, iN, by omega, by simp [t7'], by simp [t8], by simp, by simp [hT, hS, List.append_assoc], rfl⟩
def InvNu (H : Heap) (x : Value) (W : List Nat) (l : List Int) (k : Nat) (t : Tm) (H1 : Heap) : Prop :=
  ∃ i, i + k = l.length ∧ t 1 = x ∧ t 5 = iv i ∧ t 0 = .string (strB (W ++ ints decI (l.take i))) ∧ H1 = H
theorem numbers_T {H : Heap} (hw : H.WF) {x : Value} {l : List Int} (hx : Ints H .i64 x l) (hl : l.length ≤ 50) (ho : ∀ n ∈ l, okI n) (W : List Nat) (hW : W.length ≤ 1000) : T Try.prog 20 [.string (strB W), x] H (.string (strB (W ++ ints decI l))) H := by
  refine T_eq hm light20 ?_
  obtain ⟨a, c, hxa⟩ := hx.len
  simp [L20]
  refine loop_at (InvNu H x W l) l.length ?_ ?_
  · exact ⟨0, by omega, by simp, by simp, by simp [ints], rfl⟩
  · rintro k t H1 ⟨i, hik, t1, t5, t0, rfl⟩
    cases k with
    | zero =>
      have e1 : ¬ ((i : Int) < l.length) := by omega
      rw [List.take_of_length_le (by omega)] at t0
      rw [hxa] at t1
      simp [L20_1, t1, t5, e1, t0]
    | succ k =>
      have hil : i < l.length := by omega
      have e1 : ((i : Int) < l.length) := by omega
      have e4 : IntKind.i64.wrap ((i : Int) + 1) = ((i + 1 : Nat) : Int) := by rw [w64 _ (by omega)]; omega
      obtain ⟨iN, hiN⟩ : ∃ n : Nat, n = i + 1 := ⟨_, rfl⟩
      have hT : ints decI (l.take iN) = ints decI (l.take i) ++ 32 :: decI l[i] := by rw [hiN]; exact ints_take hil
      rw [← hiN] at e4
      obtain ⟨b, off, c', hxb, ld⟩ := hx.at hil
      have t1' := t1
      rw [hxb] at t1
      have hn := ho l[i] (List.getElem_mem hil)
      obtain ⟨n, hnv⟩ : ∃ n, n = l[i] := ⟨_, rfl⟩
      rw [← hnv] at ld hn hT
      obtain ⟨S, hS⟩ : ∃ S, S = W ++ ints decI (l.take i) := ⟨_, rfl⟩
      rw [← hS] at t0
      have hSl : S.length ≤ 10000 := by
        have := ints_len (l.take i)
        rw [hS, List.length_append]
        have : (l.take i).length ≤ 50 := by rw [List.length_take]; omega
        omega
      have dl := decI_len n
      have a1 := space_add (decI n) (by omega)
      have a2 := strB_add S (32 :: decI n) (by simp; omega)
      simp [L20_1, t5, e1, t1, hil, ld, t0]
      refine goT_of (refTextK hw hn) ?_
      simp [a1, a2, t5, e4]
      exact ⟨k, by omega, iN, by omega, by simp [t1'], by simp, by simp [hT, hS, List.append_assoc], rfl⟩
/-! ### a line a task -/
def textV (L : List Tk) : List Nat := L.flatMap (lineT decI)
theorem lineT_len {t : Tk} (o : TkOk t) : (lineT decI t).length ≤ 4000 := by
  have h1 := ints_len [t.age, t.deep]
  have h2 := ints_len t.reads
  have h3 := ints_len t.writes
  have h4 := ints_len t.from'
  have := o.lr
  have := o.lw
  have := o.lf
  simp only [List.length_cons, List.length_nil] at h1
  simp only [lineT, List.length_append, List.length_cons, List.length_nil]
  omega
theorem textV_len : ∀ {L : List Tk}, (∀ t ∈ L, TkOk t) → (textV L).length ≤ 4000 * L.length
  | [], _ => by simp [textV]
  | t :: L, h => by
    have := textV_len (L := L) (fun t ht => h t (by simp [ht]))
    have h1 := lineT_len (h t (by simp))
    simp only [textV, List.flatMap_cons, List.length_append, List.length_cons] at this ⊢
    omega
theorem textV_take {L : List Tk} {i : Nat} (hi : i < L.length) : textV (L.take (i + 1)) = textV (L.take i) ++ lineT decI L[i] := by
  unfold textV
  rw [List.take_add_one, List.flatMap_append]
  simp [hi]
theorem strB_add' {a b c : List Nat} (h : a.length + b.length ≤ 9223372036854775807) (e : a ++ b = c) : sBin .add (.string (strB a)) (.string (strB b)) = some (.string (strB c)) := by rw [strB_add a b h, e]
/-- Two numbers in a fresh row. -/
theorem two_ints {H : Heap} (hw : H.WF) (a d : Int) : Ints (H.new 3 1 [iv a, iv d]) .i64 (.slice (some ⟨H.next, 0, none⟩) 2 0) [a, d] := by
  have hnB := hw.next_ge
  exact (Own.mk (H := H.new 3 1 [iv a, iv d]) (ety := 3) (sz := 1) (n := 2) (b := H.next) (cells := [a, d].map (.int .i64)) rfl (by simpa using hnB) (by simp)).ints
theorem two_ok {a d : Int} (ha : okI a) (hd : okI d) : ∀ n ∈ [a, d], okI n := by
  intro n hn
  simp at hn
  rcases hn with rfl | rfl <;> assumption
theorem lit1 : strB [116, 97, 115, 107] = ⟨#[116, 97, 115, 107]⟩ := rfl
theorem lit2 : strB [32, 114, 101, 97, 100, 115] = ⟨#[32, 114, 101, 97, 100, 115]⟩ := rfl
theorem lit3 : strB [32, 119, 114, 105, 116, 101, 115] = ⟨#[32, 119, 114, 105, 116, 101, 115]⟩ := rfl
theorem lit4 : strB [32, 102, 114, 111, 109] = ⟨#[32, 102, 114, 111, 109]⟩ := rfl
theorem lit5 : strB [114, 101, 97, 100, 115] = ⟨#[114, 101, 97, 100, 115]⟩ := rfl
theorem lit6 : strB [119, 114, 105, 116, 101, 115] = ⟨#[119, 114, 105, 116, 101, 115]⟩ := rfl
theorem lit7 : strB [102, 114, 111, 109] = ⟨#[102, 114, 111, 109]⟩ := rfl
theorem litn : strB [10] = ⟨#[10]⟩ := rfl
theorem lits : strB [32] = ⟨#[32]⟩ := rfl
theorem z2 : zerosA [Value.int IntKind.i64 0] 2 = [.int .i64 0, .int .i64 0] := rfl
def InvTt (H : Heap) (x : Value) (L : List Tk) (k : Nat) (t : Tm) (H1 : Heap) : Prop :=
  ∃ i, i + k = L.length ∧ t 6 = x ∧ t 7 = iv L.length ∧ t 8 = iv i ∧ t 3 = .string (strB (textV (L.take i))) ∧ On H H1
theorem flowText_T {H : Heap} (hw : H.WF) {x : Value} {L : List Tk} (hx : TkL H x L) (hl : L.length ≤ 100) (ok : ∀ t ∈ L, TkOk t) : T Try.prog 10 [x] H (.string (strB (textV L))) H := by
  refine T_seen hm light10 rfl ?_
  obtain ⟨a, c, hxa⟩ := hx.len
  rw [hxa]
  simp [L10]
  rw [← hxa]
  refine loop_at (InvTt H x L) L.length ?_ ?_
  · exact ⟨0, by omega, by simp, by simp, by simp, by simp [textV, strB_nil], On.refl hw⟩
  · rintro k t H1 ⟨i, hik, t6, t7, t8, t3, on1⟩
    cases k with
    | zero =>
      have e1 : ¬ ((i : Int) < L.length) := by omega
      rw [List.take_of_length_le (by omega)] at t3
      simp [L10_1, t7, t8, e1, t3]
      exact on1.keep
    | succ k =>
      have hil : i < L.length := by omega
      have e1 : ((i : Int) < L.length) := by omega
      have e4 : IntKind.i64.wrap ((i : Int) + 1) = ((i + 1 : Nat) : Int) := by rw [w64 _ (by omega)]; omega
      obtain ⟨iN, hiN⟩ : ∃ n : Nat, n = i + 1 := ⟨_, rfl⟩
      have hT : textV (L.take iN) = textV (L.take i) ++ lineT decI L[i] := by rw [hiN]; exact textV_take hil
      rw [← hiN] at e4
      obtain ⟨b, off, c', hxs, all⟩ := hx.all (by omega)
      obtain ⟨u, v, z, A⟩ := all i hil
      have okt := ok L[i] (List.getElem_mem hil)
      obtain ⟨tk, htk⟩ : ∃ tk, tk = L[i] := ⟨_, rfl⟩
      rw [← htk] at A okt hT
      have A2 := A.on hw on1
      have all5 := A2.all
      obtain ⟨R5, hR5⟩ : ∃ R5, R5 = [iv tk.age, u, v, z, iv tk.deep] := ⟨_, rfl⟩
      rw [← hR5] at all5
      obtain ⟨HB, stB, onB, nB, ldB⟩ := newTk on1.wf R5 (by rw [hR5]; rfl)
      have on3 := on1.trans onB
      have onC : On HB (HB.new 3 1 [iv tk.age, iv tk.deep]) := (On.refl on3.wf).new _ _ _
      have iC := two_ints on3.wf tk.age tk.deep
      obtain ⟨HC, hHC⟩ : ∃ HC, HC = HB.new 3 1 [iv tk.age, iv tk.deep] := ⟨_, rfl⟩
      rw [← hHC] at onC iC
      have on4 := on3.trans onC
      have A4 := A.on hw on4
      have l0 : HB.load ⟨H1.next, 0, none⟩ = some (iv tk.age) := by rw [ldB, hR5]; rfl
      have l4 : HB.load ⟨H1.next, 4, none⟩ = some (iv tk.deep) := by rw [ldB, hR5]; rfl
      have m1 : HB.load ⟨H1.next, 1, none⟩ = some u := by rw [ldB, hR5]; rfl
      have m2 : HB.load ⟨H1.next, 2, none⟩ = some v := by rw [ldB, hR5]; rfl
      have m3 : HB.load ⟨H1.next, 3, none⟩ = some z := by rw [ldB, hR5]; rfl
      have l1 : HC.load ⟨H1.next, 1, none⟩ = some u := load_keepN on3.wf onC.base onC.keep (by rw [ldB, hR5]; rfl)
      have l2 : HC.load ⟨H1.next, 2, none⟩ = some v := load_keepN on3.wf onC.base onC.keep (by rw [ldB, hR5]; rfl)
      have l3 : HC.load ⟨H1.next, 3, none⟩ = some z := load_keepN on3.wf onC.base onC.keep (by rw [ldB, hR5]; rfl)
      have r1 := rowW_T on4.wf iC (by simp) (two_ok okt.age okt.deep) [116, 97, 115, 107] (by decide)
      have r2 := rowW_T on4.wf A4.iu okt.lr okt.rd [32, 114, 101, 97, 100, 115] (by decide)
      have r3 := rowW_T on4.wf A4.iw okt.lw okt.wr [32, 119, 114, 105, 116, 101, 115] (by decide)
      have r4 := rowW_T on4.wf A4.iz okt.lf okt.fr [32, 102, 114, 111, 109] (by decide)
      obtain ⟨S, hS⟩ : ∃ S, S = textV (L.take i) := ⟨_, rfl⟩
      rw [← hS] at t3
      have hSl : S.length ≤ 400000 := by
        have := textV_len (L := L.take i) (fun t ht => ok t (List.mem_of_mem_take ht))
        rw [← hS] at this
        have : (L.take i).length ≤ 100 := by rw [List.length_take]; omega
        omega
      have le := lineT_len okt
      obtain ⟨P1, hP1⟩ : ∃ P, P = [116, 97, 115, 107] ++ ints decI [tk.age, tk.deep] := ⟨_, rfl⟩
      obtain ⟨P2, hP2⟩ : ∃ P, P = [32, 114, 101, 97, 100, 115] ++ ints decI tk.reads := ⟨_, rfl⟩
      obtain ⟨P3, hP3⟩ : ∃ P, P = [32, 119, 114, 105, 116, 101, 115] ++ ints decI tk.writes := ⟨_, rfl⟩
      obtain ⟨P4, hP4⟩ : ∃ P, P = [32, 102, 114, 111, 109] ++ ints decI tk.from' := ⟨_, rfl⟩
      rw [← hP1, lit1] at r1
      rw [← hP2, lit2] at r2
      rw [← hP3, lit3] at r3
      rw [← hP4, lit4] at r4
      have hline : lineT decI tk = P1 ++ P2 ++ P3 ++ P4 ++ [10] := by rw [hP1, hP2, hP3, hP4]; rfl
      rw [hline] at hT le
      simp only [List.length_append, List.length_cons, List.length_nil] at le
      have b1 := strB_add P1 P2 (by omega)
      have b2 := strB_add (P1 ++ P2) P3 (by simp only [List.length_append]; omega)
      have b3 := strB_add (P1 ++ P2 ++ P3) P4 (by simp only [List.length_append]; omega)
      have b4 := strB_add (P1 ++ P2 ++ P3 ++ P4) [10] (by simp only [List.length_append, List.length_cons, List.length_nil]; omega)
      have b5 := strB_add S (P1 ++ P2 ++ P3 ++ P4 ++ [10]) (by simp only [List.length_append, List.length_cons, List.length_nil]; omega)
      rw [litn] at b4
      rw [← hS] at hT
      obtain ⟨Q2, hQ2⟩ : ∃ Q, Q = P1 ++ P2 := ⟨_, rfl⟩
      rw [← hQ2] at b1 b2 b3 b4 b5 hT
      obtain ⟨Q3, hQ3⟩ : ∃ Q, Q = Q2 ++ P3 := ⟨_, rfl⟩
      rw [← hQ3] at b2 b3 b4 b5 hT
      obtain ⟨Q4, hQ4⟩ : ∃ Q, Q = Q3 ++ P4 := ⟨_, rfl⟩
      rw [← hQ4] at b3 b4 b5 hT
      obtain ⟨Q5, hQ5⟩ : ∃ Q, Q = Q4 ++ [10] := ⟨_, rfl⟩
      rw [← hQ5] at b4 b5 hT
      have t6' := t6
      rw [hxs] at t6
      simp [L10_1, t7, t8, e1, t6, hil, all5, stB, l0, l4, z2, ← hHC, t3]
      refine goT_of r1 ?_
      simp [l1, m1]
      refine goT_of r2 ?_
      simp [b1, l2, m2]
      refine goT_of r3 ?_
      simp [b2, l3, m3]
      refine goT_of r4 ?_
      simp [b3, b4, b5, t8, e4]
      exact ⟨k, by omega, iN, by omega, by simp [t6'], by simp [t7], by simp, by simp [hT], on4⟩
def InvTr (H : Heap) (x : Value) (L : List Tk) (k : Nat) (t : Tm) (H1 : Heap) : Prop :=
  ∃ i, i + k = L.length ∧ t 0 = x ∧ t 4 = iv i ∧ t 3 = .string (strB (textV (L.take i))) ∧ On H H1
theorem docText_T {H : Heap} (hw : H.WF) {x : Value} {L : List Tk} (hx : TkL H x L) (hl : L.length ≤ 100) (ok : ∀ t ∈ L, TkOk t) : T Try.prog 11 [x] H (.string (strB (textV L))) H := by
  refine T_seen hm light11 rfl ?_
  obtain ⟨a, c, hxa⟩ := hx.len
  simp [L11]
  refine loop_at (InvTr H x L) L.length ?_ ?_
  · exact ⟨0, by omega, by simp, by simp, by simp [textV, strB_nil], On.refl hw⟩
  · rintro k t H1 ⟨i, hik, t0, t4, t3, on1⟩
    cases k with
    | zero =>
      have e1 : ¬ ((i : Int) < L.length) := by omega
      rw [List.take_of_length_le (by omega)] at t3
      rw [hxa] at t0
      simp [L11_1, t0, t4, e1, t3]
      exact on1.keep
    | succ k =>
      have hil : i < L.length := by omega
      have e1 : ((i : Int) < L.length) := by omega
      have e4 : IntKind.i64.wrap ((i : Int) + 1) = ((i + 1 : Nat) : Int) := by rw [w64 _ (by omega)]; omega
      obtain ⟨iN, hiN⟩ : ∃ n : Nat, n = i + 1 := ⟨_, rfl⟩
      have hT : textV (L.take iN) = textV (L.take i) ++ lineT decI L[i] := by rw [hiN]; exact textV_take hil
      rw [← hiN] at e4
      obtain ⟨b, off, c', hxs, all⟩ := hx.all (by omega)
      obtain ⟨u, v, z, A⟩ := all i hil
      have okt := ok L[i] (List.getElem_mem hil)
      obtain ⟨tk, htk⟩ : ∃ tk, tk = L[i] := ⟨_, rfl⟩
      rw [← htk] at A okt hT
      have A2 := A.on hw on1
      have onC : On H1 (H1.new 3 1 [iv tk.age, iv tk.deep]) := (On.refl on1.wf).new _ _ _
      have iC := two_ints on1.wf tk.age tk.deep
      obtain ⟨HC, hHC⟩ : ∃ HC, HC = H1.new 3 1 [iv tk.age, iv tk.deep] := ⟨_, rfl⟩
      rw [← hHC] at onC iC
      have on4 := on1.trans onC
      have A4 := A.on hw on4
      have l0 := A2.c0
      have l4 := A2.c4
      have l1 := A4.c1
      have m1 := A2.c1
      have m2 := A2.c2
      have m3 := A2.c3
      have l2 := A4.c2
      have l3 := A4.c3
      have r1 := numbers_T on4.wf iC (by simp) (two_ok okt.age okt.deep) [116, 97, 115, 107] (by decide)
      have r2 := numbers_T on4.wf A4.iu okt.lr okt.rd [114, 101, 97, 100, 115] (by decide)
      have r3 := numbers_T on4.wf A4.iw okt.lw okt.wr [119, 114, 105, 116, 101, 115] (by decide)
      have r4 := numbers_T on4.wf A4.iz okt.lf okt.fr [102, 114, 111, 109] (by decide)
      obtain ⟨S, hS⟩ : ∃ S, S = textV (L.take i) := ⟨_, rfl⟩
      rw [← hS] at t3
      have hSl : S.length ≤ 400000 := by
        have := textV_len (L := L.take i) (fun t ht => ok t (List.mem_of_mem_take ht))
        rw [← hS] at this
        have : (L.take i).length ≤ 100 := by rw [List.length_take]; omega
        omega
      have le := lineT_len okt
      obtain ⟨P1, hP1⟩ : ∃ P, P = [116, 97, 115, 107] ++ ints decI [tk.age, tk.deep] := ⟨_, rfl⟩
      obtain ⟨P2, hP2⟩ : ∃ P, P = [114, 101, 97, 100, 115] ++ ints decI tk.reads := ⟨_, rfl⟩
      obtain ⟨P3, hP3⟩ : ∃ P, P = [119, 114, 105, 116, 101, 115] ++ ints decI tk.writes := ⟨_, rfl⟩
      obtain ⟨P4, hP4⟩ : ∃ P, P = [102, 114, 111, 109] ++ ints decI tk.from' := ⟨_, rfl⟩
      rw [← hP1, lit1] at r1
      rw [← hP2, lit5] at r2
      rw [← hP3, lit6] at r3
      rw [← hP4, lit7] at r4
      have hline : lineT decI tk = ((((((P1 ++ [32]) ++ P2) ++ [32]) ++ P3) ++ [32]) ++ P4) ++ [10] := by rw [hP1, hP2, hP3, hP4]; simp [lineT, List.append_assoc]
      rw [hline] at hT le
      simp only [List.length_append, List.length_cons, List.length_nil] at le
      obtain ⟨Q1, hQ1⟩ : ∃ Q, Q = P1 ++ [32] := ⟨_, rfl⟩
      obtain ⟨Q2, hQ2⟩ : ∃ Q, Q = Q1 ++ P2 := ⟨_, rfl⟩
      obtain ⟨Q3, hQ3⟩ : ∃ Q, Q = Q2 ++ [32] := ⟨_, rfl⟩
      obtain ⟨Q4, hQ4⟩ : ∃ Q, Q = Q3 ++ P3 := ⟨_, rfl⟩
      obtain ⟨Q5, hQ5⟩ : ∃ Q, Q = Q4 ++ [32] := ⟨_, rfl⟩
      obtain ⟨Q6, hQ6⟩ : ∃ Q, Q = Q5 ++ P4 := ⟨_, rfl⟩
      obtain ⟨Q7, hQ7⟩ : ∃ Q, Q = Q6 ++ [10] := ⟨_, rfl⟩
      rw [← hQ1, ← hQ2, ← hQ3, ← hQ4, ← hQ5, ← hQ6, ← hQ7, ← hS] at hT
      have n1 : Q1.length = P1.length + 1 := by rw [hQ1]; simp
      have n2 : Q2.length = Q1.length + P2.length := by rw [hQ2]; simp
      have n3 : Q3.length = Q2.length + 1 := by rw [hQ3]; simp
      have n4 : Q4.length = Q3.length + P3.length := by rw [hQ4]; simp
      have n5 : Q5.length = Q4.length + 1 := by rw [hQ5]; simp
      have n6 : Q6.length = Q5.length + P4.length := by rw [hQ6]; simp
      have n7 : Q7.length = Q6.length + 1 := by rw [hQ7]; simp
      have b1 := strB_add' (a := P1) (b := [32]) (by simp; omega) hQ1.symm
      have b2 := strB_add' (a := Q1) (b := P2) (by omega) hQ2.symm
      have b3 := strB_add' (a := Q2) (b := [32]) (by simp; omega) hQ3.symm
      have b4 := strB_add' (a := Q3) (b := P3) (by omega) hQ4.symm
      have b5 := strB_add' (a := Q4) (b := [32]) (by simp; omega) hQ5.symm
      have b6 := strB_add' (a := Q5) (b := P4) (by omega) hQ6.symm
      have b7 := strB_add' (a := Q6) (b := [10]) (by simp; omega) hQ7.symm
      have b8 := strB_add S Q7 (by omega)
      rw [lits] at b1 b3 b5
      rw [litn] at b7
      have t0' := t0
      rw [hxs] at t0
      simp [L11_1, t0, t4, e1, hil, l0, l4, z2, ← hHC, t3]
      refine goT_of r1 ?_
      simp [b1, l1, m1, hil, t0, t4]
      refine goT_of r2 ?_
      simp [b2, b3, l2, m2, hil, t0, t4]
      refine goT_of r3 ?_
      simp [b4, b5, l3, m3, hil, t0, t4]
      refine goT_of r4 ?_
      simp [b6, b7, b8, t4, e4]
      exact ⟨k, by omega, iN, by omega, by simp [t0'], by simp, by simp [hT], on4⟩
end Go.Proofs.Ytfmcnojojknkfaa
