/-
  Chapter 8: a text taken up, by the document.
-/
import Derived.Test.YtkocomnfomjfiaaSeatAI
namespace Go.Proofs.Ytkocomnfomjfiaa
open Go.Ot Go.RowKit
set_option linter.unusedSimpArgs false
set_option linter.unusedVariables false
theorem parts_q (k : Int) : sBin .eql (.string (parts k)) (.string ⟨#[63]⟩) = some (.bool (!valid k)) := by
  have key : ∀ a b : ByteArray, sBin .eql (.string a) (.string b) = some (.bool (a.data.toList == b.data.toList)) := by
    intro a b
    simp only [sBin, sBinS, ByteArray.toList_eq]
  rw [key]
  cases hv : valid k with
  | false =>
    have : parts k = ⟨#[63]⟩ := by unfold parts; rw [if_neg (by simp [hv])]
    rw [this]; rfl
  | true =>
    rcases kinds hv with rfl | rfl | rfl | rfl | rfl | rfl | rfl | rfl | rfl | rfl | rfl | rfl | rfl <;> rfl
theorem parts_kind (M : Nat) (h : Sh) (s : St) : (partsS M h s).1.kind = s.1.kind := by
  have u : ∀ (has : Bool) (set : In → Int → In) (s : St), (∀ x v, (set x v).kind = x.kind) → (stU M has set s).1.kind = s.1.kind := fun has set s hs => by
    unfold stU; split
    · exact hs _ _
    · rfl
  have k : ∀ (has : Bool) (s : St), (stK has s).1.kind = s.1.kind := fun has s => by
    unfold stK; split <;> rfl
  unfold partsS
  rw [k]
  simp only [it3]
  rw [u _ setC _ (fun _ _ => rfl), u _ setB _ (fun _ _ => rfl), u _ setA _ (fun _ _ => rfl), u _ setOp _ (fun _ _ => rfl)]
theorem rows_pushX {H G : Heap} (X : Xt H G) {n : Nat} {cells : List Value} {y : Value} (own : Own G 25 6 n cells y) (yn : ∀ c, blkOf y = some c → H.next ≤ c) (row : List Value) (hr : row.length = 6) (hb : (n + 1) * 48 ≤ 140737488355328) :
    ∃ a GA, sAppend (G.new 25 6 row) 25 6 48 y (.slice (some ⟨G.next, 0, none⟩) 1 0) = some (.slice (some a) (n + 1) 0, GA) ∧ Xt H GA ∧ Own GA 25 6 (n + 1) (cells ++ row) (.slice (some a) (n + 1) 0) ∧ a.block = G.next + 1 ∧ GA.base = G.base ∧ (∀ c, c < G.next → blkOf y ≠ some c → GA.blk c = G.blk c) := by
  have hw := X.wf
  have hnB := hw.next_ge
  have hn := X.next
  have hsrc : srcCells (G.new 25 6 row) 6 (.slice (some ⟨G.next, 0, none⟩) 1 0) = some (1, row) := by
    rw [src_at (ety := 25) (cs := row) (by simpa using hnB) (by simp) (by omega)]
    simp [List.take_of_length_le, hr]
  have hap := append_any (bytes := 48) (own.new hw 25 6 row) hsrc (by omega) hb
  have keep : ∀ c, c < G.next → blkOf y ≠ some c → (((G.new 25 6 row).drop y).new 25 6 (cells ++ row)).blk c = G.blk c := fun c hc hy => by
    simp [show c ≠ G.next by omega, show c ≠ G.next + 1 by omega, blk_drop, hy]
  refine ⟨_, _, hap, ⟨by simpa using X.base, by simp; omega, X.wf0, WF_new (WF_drop (WF_new hw _ _ _) _) _ _ _, fun c hc => (keep c (by omega) (fun e => by have := yn _ e; omega)).trans (X.old c hc)⟩, ?_, by simp, by simp, keep⟩
  refine Own.mk (by simp [own.1, hr, Nat.add_mul]) (by simp; omega) ?_
  simp
structure DR (H G : Heap) (q : Nat) (l : List Nat) (f : Nat) (acc : List In) (xr y : Value) : Prop where
  X : Xt H G
  v : Two G q xr (.int .i64 (f : Int))
  hq : H.next ≤ q
  own : Own G 25 6 acc.length (acc.map rowI).flatten y
  yn : ∀ c, blkOf y = some c → H.next ≤ c ∧ c ≠ q
  bs : Bs H xr l
  lt : ∀ c ∈ l, c < 256
  ok : ∀ a ∈ acc, okI a.kind
def Tl23 : LCode := match L23 with | .seq _ (.seq _ (.seq _ (.seq _ r))) => r | _ => .skip
def A23a : LCode := match L23 with | .seq a _ => a | _ => .skip
def A23b : LCode := match L23 with | .seq _ (.seq a _) => a | _ => .skip
def A23c : LCode := match L23 with | .seq _ (.seq _ (.seq a _)) => a | _ => .skip
def A23d : LCode := match L23 with | .seq _ (.seq _ (.seq _ (.seq a _))) => a | _ => .skip
theorem L23_eq : L23 = .seq A23a (.seq A23b (.seq A23c (.seq A23d Tl23))) := rfl
/-- Behind the loop. -/
theorem tl23_w {H G : Heap} {q : Nat} {l : List Nat} {f : Nat} {acc : List In} {xr y : Value} {cells : Int} {r : List In × Int} (D : DR H G q l f acc xr y) {t : Tm} (t1 : t 1 = iv cells) (t6 : t 6 = ptr q) (t8 : t 8 = y)
    (hr : r = if endN l f ≠ 0 then ([], (endN l f : Int)) else if (checkV acc cells).2 ≠ 0 then ([], (checkV acc cells).2) else (acc, 0)) : wpA Try.prog Tl23 (EndA (DecQ H r) [.tmp 4, .tmp 5]) t (rdy G) := by
  have la := D.v.loadA
  have hqn := D.X.wf.lt D.v.bp
  obtain ⟨v1, G1, T1, rfl, s1⟩ := endR_T D.X.wf (D.X.bs D.bs) f
  have X1 := D.X.call T1 s1
  have v1 := D.v.keep T1.1 (s1 _ hqn (by simp))
  have la1 := v1.loadA
  have hrw : Rws G1 6 y (acc.map rowI) := (rows_rws D.own).keep D.X.wf T1.1 (fun c hc => s1 c hc (by simp))
  obtain ⟨ya, hya⟩ := D.own.len
  obtain ⟨e1, he1⟩ : ∃ e1, e1 = endN l f := ⟨_, rfl⟩
  rw [← he1] at T1 hr
  simp only [dR] at T1
  by_cases h1 : e1 = 0
  case neg =>
    rw [if_pos h1] at hr
    obtain ⟨v2, G2, T2, rfl, s2⟩ := endR_T X1.wf (X1.bs D.bs) f
    rw [← he1] at T2
    simp only [dR] at T2
    have X2 := X1.call T2 s2
    subst hr
    simp [Tl23, L23, t6, la]
    refine goT_of T1 ?_
    simp [h1, t6, la1]
    refine goT_of T2 ?_
    simp [packV]
    exact ⟨_, rfl, .inl ⟨rfl, rfl⟩, X2.same⟩
  subst h1
  rw [if_neg (by simp : ¬ (0 : Nat) ≠ 0)] at hr
  obtain ⟨v4, G4, T4, rfl, s4⟩ := checkR_T X1.wf hrw D.ok cells
  have X4 := X1.call T4 s4
  have hrw4 : Rws G4 6 y (acc.map rowI) := hrw.keep X1.wf T4.1 (fun c hc => s4 c hc (by simp))
  obtain ⟨e2, he2⟩ : ∃ e2, e2 = (checkV acc cells).2 := ⟨_, rfl⟩
  obtain ⟨w2, hw2⟩ : ∃ w2, w2 = (checkV acc cells).1 := ⟨_, rfl⟩
  have hpair : checkV acc cells = (w2, e2) := by rw [he2, hw2]
  rw [hpair] at T4 hr
  simp only at hr T4
  by_cases h2 : e2 = 0
  case neg =>
    have h2' : (e2 != 0) = true := by simp [h2]
    rw [if_pos h2] at hr
    subst hr
    simp [Tl23, L23, t6, la]
    refine goT_of T1 ?_
    simp [t1, t8]
    refine goT_of T4 ?_
    simp [h2', packV]
    exact ⟨_, rfl, .inl ⟨rfl, rfl⟩, X4.same⟩
  rw [if_neg (by simpa using h2)] at hr
  have h2' : (e2 != 0) = false := by simp [h2]
  subst hr
  have hny : notTup y = true := by rw [hya]; rfl
  simp [Tl23, L23, t6, la]
  refine goT_of T1 ?_
  simp [t1, t8]
  refine goT_of T4 ?_
  simp [h2', packV, t8, hny]
  exact ⟨_, rfl, hrw4, X4.same⟩
theorem DR.call {H G G' : Heap} {q : Nat} {l : List Nat} {f : Nat} {acc : List In} {xr y : Value} (D : DR H G q l f acc xr y) {g : FuncId} {args : List Value} {v : Value} (hT : T Try.prog g args G v G') (hs : Same G G' []) : DR H G' q l f acc xr y :=
  ⟨D.X.call hT hs, D.v.keep hT.1 (hs _ (D.X.wf.lt D.v.bp) (by simp)), D.hq, D.own.keep (B_eq hT.1) (fun c hc => hs c (D.own.lt D.X.wf hc) (by simp)), D.yn, D.bs, D.lt, D.ok⟩
theorem DR.new {H G : Heap} {q : Nat} {l : List Nat} {f : Nat} {acc : List In} {xr y : Value} (D : DR H G q l f acc xr y) (ty sz : Nat) (cs : List Value) : DR H (G.new ty sz cs) q l f acc xr y :=
  ⟨D.X.new _ _ _, D.v.new D.X.wf _ _ _, D.hq, D.own.new D.X.wf _ _ _, D.yn, D.bs, D.lt, D.ok⟩
theorem DR.set {H G : Heap} {q : Nat} {l : List Nat} {f : Nat} {acc : List In} {xr y : Value} (D : DR H G q l f acc xr y) (x' : Value) (l' : List Nat) (f' : Nat) (hb : Bs H x' l') (hl : ∀ c ∈ l', c < 256) :
    sStore G 2 (ptr q) (.agg #[x', .int .i64 (f' : Int)]) = some (G.put q [x', .int .i64 (f' : Int)]) ∧ DR H (G.put q [x', .int .i64 (f' : Int)]) q l' f' acc x' y :=
  ⟨D.v.storeA _ _, D.X.put D.hq _, D.v.put _ _, D.hq, D.own.keep (by simp) (fun c hc => by have := (D.yn c hc).2; simp [this]), D.yn, hb, hl, D.ok⟩
theorem DR.put {H G : Heap} {q : Nat} {l : List Nat} {f : Nat} {acc : List In} {xr y : Value} (D : DR H G q l f acc xr y) {px : Nat} (h1 : H.next ≤ px) (h2 : px ≠ q) (h3 : blkOf y ≠ some px) (cs : List Value) : DR H (G.put px cs) q l f acc xr y :=
  ⟨D.X.put h1 _, D.v.beside h2.symm _, D.hq, D.own.keep (by simp) (fun c hc => by
    have hne : c ≠ px := fun e => h3 (by rw [← e]; exact hc)
    simp [hne]), D.yn, D.bs, D.lt, D.ok⟩
theorem DR.push {H G : Heap} {q : Nat} {l : List Nat} {f : Nat} {acc : List In} {xr y : Value} (D : DR H G q l f acc xr y) (x : In) (hx : okI x.kind) (hl : acc.length ≤ 1000000) :
    ∃ a GA, sAppend (G.new 25 6 (rowI x)) 25 6 48 y (.slice (some ⟨G.next, 0, none⟩) 1 0) = some (.slice (some a) (acc.length + 1) 0, GA) ∧ DR H GA q l f (acc ++ [x]) xr (.slice (some a) (acc.length + 1) 0) := by
  obtain ⟨a, GA, ap, XA, oA, hab, hbA, kA⟩ := rows_pushX D.X D.own (fun c hc => (D.yn c hc).1) (rowI x) rfl (by omega)
  have hqn := D.X.wf.lt D.v.bp
  have hn := D.X.next
  refine ⟨a, GA, ap, XA, D.v.keep hbA (kA q hqn (fun e => (D.yn q e).2 rfl)), D.hq, by simpa using oA, fun c hc => ?_, D.bs, D.lt, fun b hb => ?_⟩
  · have : c = a.block := by
      obtain ⟨ab, ao, ai⟩ := a
      simp at hc
      exact hc.symm
    omega
  · rcases List.mem_append.1 hb with h | h
    · exact D.ok b h
    · simp at h; rw [h]; exact hx
def InvDr (H : Heap) (q : Nat) (cells : Int) (n : Nat) (want : Nat × List In × List Nat × Nat) (k : Nat) (t : Tm) (G : Heap) : Prop :=
  ∃ (i : Nat) (l : List Nat) (f : Nat) (acc : List In) (xr y : Value), i + k = n ∧ acc.length = i ∧ t 1 = iv cells ∧ t 6 = ptr q ∧ t 7 = iv (n : Nat) ∧ t 8 = y ∧ t 9 = iv (i : Nat) ∧ DR H G q l f acc xr y ∧ loopS 1000 k l f acc = want
theorem decodeR_T {H : Heap} (hw : H.WF) {x : Value} {b : List Nat} (hx : Bs H x b) (hlt : ∀ c ∈ b, c < 256) (hlen : b.length ≤ 1000000) (cells : Int) :
    ∃ v H', T Try.prog 23 [x, iv cells] H v H' ∧ DecQ H (decS 1000 b cells) v H' := by
  refine T_by hm light23 ?_
  obtain ⟨v1, H1, T1, x1, rfl, b1, s1⟩ := countR2_T (Xt.refl hw) hx hlt (by omega) 0 1 (by unfold okI2; omega)
  have X1 := (Xt.refl hw).call T1 s1
  have hsm : (countS b 0 1).1 ≤ b.length := by
    by_cases h : (countS b 0 1).2.2 = 0
    · exact Nat.le_trans (countS_le b 0 1 h) (countS_suf b 0 1).length_le
    · have : (countS b 0 1).1 = 0 := by
        unfold countS at h ⊢
        split
        · rfl
        · rename_i h1
          rw [if_neg h1] at h
          exact uS_fail b 0 h
      omega
  have hcl : ∀ c ∈ (countS b 0 1).2.1, c < 256 := fun c hc => hlt c ((countS_suf b 0 1).mem hc)
  unfold decS
  obtain ⟨n, hn⟩ : ∃ n, n = (countS b 0 1).1 := ⟨_, rfl⟩
  obtain ⟨l1, hl1⟩ : ∃ l1, l1 = (countS b 0 1).2.1 := ⟨_, rfl⟩
  obtain ⟨f1, hf1⟩ : ∃ f1, f1 = (countS b 0 1).2.2 := ⟨_, rfl⟩
  rw [← hn, ← hf1] at T1
  rw [← hl1] at b1 hcl
  rw [← hn] at hsm
  rw [← hn, ← hl1, ← hf1]
  have T1' : T Try.prog 43 [.agg #[x, .int .i64 0], .int .i64 1] H (.tuple #[.agg #[x1, .int .i64 (f1 : Int)], .int .i64 (n : Int)]) H1 := T1
  obtain ⟨want, hwant⟩ : ∃ want, want = loopS 1000 n l1 f1 [] := ⟨_, rfl⟩
  rw [← hwant]
  have st2 := (Two.mk' X1.wf (.slice none 0 0) (.int .i64 0)).storeA x1 (.int .i64 (f1 : Int))
  rw [new_put] at st2
  obtain ⟨H2, hH2⟩ : ∃ H2, H2 = H1.new 80 2 [x1, .int .i64 (f1 : Int)] := ⟨_, rfl⟩
  have D2 : DR H H2 H1.next l1 f1 [] x1 (.slice none 0 0) := by
    rw [hH2]
    exact ⟨X1.new _ _ _, Two.mk' X1.wf _ _, X1.next, by simpa using Own.nil _ 25 6, by simp, b1, hcl, by simp⟩
  rw [← hH2] at st2
  obtain ⟨r, hr⟩ : ∃ r, r = endS cells want := ⟨_, rfl⟩
  rw [← hr]
  obtain ⟨xa, xc, hxs⟩ := hx.len
  rw [hxs] at T1' ⊢
  rw [L23_eq]
  simp [A23a, A23b, A23c, A23d, L23]
  refine goT_of T1' ?_
  simp [st2]
  refine loop_at (InvDr H H1.next cells n want) n ?_ ?_
  · exact ⟨0, l1, f1, [], x1, .slice none 0 0, by omega, rfl, by simp, by simp, by simp, by simp, by simp, D2, hwant.symm⟩
  · rintro k t G ⟨i, l, f, acc, xr, y, hik, hacc, t1, t6, t7, t8, t9, D, hw3⟩
    have ld := D.v.load
    have la := D.v.loadA
    cases k with
    | zero =>
      have ei : i = n := by omega
      subst ei
      have hw4 : want = (0, acc, l, f) := hw3.symm
      have hr2 : r = if endN l f ≠ 0 then ([], (endN l f : Int)) else if (checkV acc cells).2 ≠ 0 then ([], (checkV acc cells).2) else (acc, 0) := by
        rw [hr, hw4]
        unfold endS
        simp only
        rw [if_neg (by simp : ¬ (0 : Nat) ≠ 0)]
      simp [L23_1, t7, t9]
      exact tl23_w D (by simp [t1]) (by simp [t6]) (by simp [t8]) hr2
    | succ k =>
      have hi : i < n := by omega
      unfold loopS at hw3
      by_cases hf0 : f = 0
      case neg =>
        have e : (rdP 1000 l f).2.2 = f := by unfold rdP uS; rw [if_pos hf0]
        rw [e, if_pos hf0] at hw3
        have hr2 : r = if endN l f ≠ 0 then ([], (endN l f : Int)) else if (checkV acc cells).2 ≠ 0 then ([], (checkV acc cells).2) else (acc, 0) := by
          have e2 : endN l f = f := by unfold endN; rw [if_neg (by simp [hf0])]
          rw [hr, ← hw3, e2, if_pos hf0]
          unfold endS
          simp only
          rw [if_pos hf0]
        simp [L23_1, t6, t7, t9, hi, ld, hf0]
        exact tl23_w D (by simp [t1]) (by simp [t6]) (by simp [t8]) hr2
      subst hf0
      have la0 : G.loadN ⟨H1.next, 0, none⟩ 0 2 = some [xr, .int .i64 0] := la
      obtain ⟨v5, G5, T5, x5, rfl, b5, s5⟩ := takeR_T D.X D.bs D.lt 0
      have D5 := D.call T5 s5
      have hl5 : ∀ c ∈ (rdP 1000 l 0).2.1, c < 256 := fun c hc => D.lt c ((rdP_suf 1000 l 0).mem hc)
      obtain ⟨st6, D6⟩ := D5.set x5 (rdP 1000 l 0).2.1 (rdP 1000 l 0).2.2 b5 hl5
      have hk1000 : (rdP 1000 l 0).1 ≤ 1000 := Nat.min_le_right _ _
      obtain ⟨kk, hkk⟩ : ∃ kk, kk = (rdP 1000 l 0).1 := ⟨_, rfl⟩
      obtain ⟨l5, hl5e⟩ : ∃ l5, l5 = (rdP 1000 l 0).2.1 := ⟨_, rfl⟩
      obtain ⟨f5, hf5⟩ : ∃ f5, f5 = (rdP 1000 l 0).2.2 := ⟨_, rfl⟩
      have hrd : rdP 1000 l 0 = (kk, l5, f5) := by rw [hkk, hl5e, hf5]
      rw [hrd] at T5 b5 hl5 st6 D6 hk1000 hw3
      simp only at b5 hl5 hk1000 hw3 st6 D6
      simp only [dR] at T5
      obtain ⟨G6, hG6⟩ : ∃ G6, G6 = G5.put H1.next [x5, .int .i64 (f5 : Int)] := ⟨_, rfl⟩
      rw [← hG6] at st6 D6
      have ld6 := D6.v.load
      have la6 := D6.v.loadA
      by_cases hf5' : f5 = 0
      case neg =>
        rw [if_pos hf5'] at hw3
        have hr2 : r = if endN l5 f5 ≠ 0 then ([], (endN l5 f5 : Int)) else if (checkV acc cells).2 ≠ 0 then ([], (checkV acc cells).2) else (acc, 0) := by
          have e2 : endN l5 f5 = f5 := by unfold endN; rw [if_neg (by simp [hf5'])]
          rw [hr, ← hw3, e2, if_pos hf5']
          unfold endS
          simp only
          rw [if_pos hf5']
        simp [L23_1, t6, t7, t9, hi, ld, la0]
        refine goT_of T5 ?_
        simp [t6, st6, ld6, hf5']
        exact tl23_w D6 (by simp [t1]) (by simp [t6]) (by simp [t8]) hr2
      subst hf5'
      rw [if_neg (by simp : ¬ (0 : Nat) ≠ 0)] at hw3
      have la60 : G6.loadN ⟨H1.next, 0, none⟩ 0 2 = some [x5, .int .i64 0] := la6
      have st60 : sStore G5 2 (ptr H1.next) (.agg #[x5, .int .i64 0]) = some G6 := st6
      have T50 : T Try.prog 44 [.agg #[xr, .int .i64 0]] G (.tuple #[.agg #[x5, .int .i64 0], iv (kk : Int)]) G5 := T5
      have stx := new_storeA D6.X.wf 25 6 [.int .i64 0, .int .i64 0, .int .i64 0, .int .i64 0, .int .i64 0, .int .i64 0] (rowI (newI kk)) rfl rfl (by decide)
      have D7 := D6.new 25 6 (rowI (newI kk))
      have V7 := Vr.mk' D6.X.wf 25 6 (rowI (newI kk))
      obtain ⟨G7, hG7⟩ : ∃ G7, G7 = G6.new 25 6 (rowI (newI kk)) := ⟨_, rfl⟩
      rw [← hG7] at stx D7 V7
      have stx' : sStore (G6.new 25 6 [.int .i64 0, .int .i64 0, .int .i64 0, .int .i64 0, .int .i64 0, .int .i64 0]) 6 (.pointer (some ⟨G6.next, 0, none⟩)) (.agg #[.int .i64 (kk : Int), .int .i64 0, .int .i64 0, .int .i64 0, .int .i64 0, .int .i64 0]) = some G7 := stx
      have lk7 : G7.load ⟨G6.next, 0, none⟩ = some (iv kk) := V7.load 0
      obtain ⟨v8, G8, T8, rfl, s8⟩ := parts_T D7.X.wf kk (by unfold okI; omega)
      have D8 := D7.call T8 s8
      have V8 := V7.keep T8.1 (s8 _ (D7.X.wf.lt V7.bq) (by simp))
      have hpq := parts_q kk
      obtain ⟨va, hva⟩ : ∃ va, va = valid (kk : Int) := ⟨_, rfl⟩
      rw [← hva] at hpq hw3
      obtain ⟨ps, hps⟩ : ∃ ps, ps = parts (kk : Int) := ⟨_, rfl⟩
      rw [← hps] at hpq T8
      cases va with
      | false =>
        rw [if_pos rfl] at hw3
        have hr2 : r = ([], 21) := by rw [hr, ← hw3]; rfl
        subst hr2
        simp [L23_1, t6, t7, t9, hi, ld, la0]
        refine goT_of T50 ?_
        simp [t6, st60, ld6, stx', lk7]
        refine goT_of T8 ?_
        simp [hpq, packV]
        exact ⟨_, rfl, .inl ⟨rfl, rfl⟩, D8.X.same⟩
      | true =>
        rw [if_neg (by simp)] at hw3
        have la8 := D8.v.loadA
        have la80 : G8.loadN ⟨H1.next, 0, none⟩ 0 2 = some [x5, .int .i64 0] := la8
        have lx8 := V8.loadA (m := 6) rfl
        obtain ⟨v9, G9, T9, x9, rfl, b9, s9⟩ := oneR2_T (x := newI kk) (f := 0) D8.X D8.bs D8.lt hva.symm
        have D9 := D8.call T9 s9
        have V9 := V8.keep T9.1 (s9 _ (D8.X.wf.lt V8.bq) (by simp))
        have hkn : (newI (kk : Int)).kind = (kk : Int) := rfl
        rw [hkn] at T9 b9
        have hsuf : (partsS 1000 (shp kk) (newI kk, l5, 0)).2.1 <:+ l5 := by
          unfold partsS
          refine (stK_suf _ _).trans ?_
          unfold it3
          exact (stU_suf _ _ _ _).trans ((stU_suf _ _ _ _).trans ((stU_suf _ _ _ _).trans (stU_suf _ _ _ _)))
        have hkd : (partsS 1000 (shp kk) (newI kk, l5, 0)).1.kind = kk := parts_kind _ _ _
        obtain ⟨pr, hpr⟩ : ∃ pr, pr = partsS 1000 (shp kk) (newI kk, l5, 0) := ⟨_, rfl⟩
        rw [← hpr] at T9 b9 hsuf hkd hw3
        obtain ⟨st10, D10⟩ := D9.set x9 pr.2.1 pr.2.2 b9 (fun c hc => hl5 c (hsuf.mem hc))
        have hxq : G6.next ≠ H1.next := by have := D6.X.wf.lt D6.v.bp; omega
        have V10 := V9.beside hxq [x9, .int .i64 (pr.2.2 : Int)]
        have hyx : blkOf y ≠ some G6.next := fun e => by have := D6.own.lt D6.X.wf e; omega
        have st11 := V10.storeA (m := 6) (by decide) (rowI pr.1) rfl rfl
        have D11 := D10.put (px := G6.next) D6.X.next hxq hyx (rowI pr.1)
        have V11 := V10.put (rowI pr.1)
        have lx11 := V11.loadA (m := 6) rfl
        obtain ⟨G10, hG10⟩ : ∃ G10, G10 = G9.put H1.next [x9, .int .i64 (pr.2.2 : Int)] := ⟨_, rfl⟩
        rw [← hG10] at st10 st11 D11 lx11
        obtain ⟨G11, hG11⟩ : ∃ G11, G11 = G10.put G6.next (rowI pr.1) := ⟨_, rfl⟩
        rw [← hG11] at st11 D11 lx11
        obtain ⟨a, GA, ap, DA⟩ := D11.push pr.1 (by rw [hkd]; unfold okI; omega) (by omega)
        have e3 : IntKind.i64.wrap ((i : Int) + 1) = ((i + 1 : Nat) : Int) := by rw [w64 _ (by omega)]; omega
        obtain ⟨i1, hi1⟩ : ∃ i1, i1 = i + 1 := ⟨_, rfl⟩
        rw [← hi1] at e3
        have z6 : zerosA [.int .i64 0, .int .i64 0, .int .i64 0, .int .i64 0, .int .i64 0, .int .i64 0] 6 = [.int .i64 0, .int .i64 0, .int .i64 0, .int .i64 0, .int .i64 0, .int .i64 0] := rfl
        have T90 : T Try.prog 45 [.agg #[x5, .int .i64 0], .agg (rowI (newI kk)).toArray] G8 (.tuple #[.agg #[x9, .int .i64 (pr.2.2 : Int)], .agg (rowI pr.1).toArray]) G9 := T9
        simp [L23_1, t6, t7, t9, hi, ld, la0]
        refine goT_of T50 ?_
        simp [t6, st60, ld6, stx', lk7]
        refine goT_of T8 ?_
        simp [hpq, t6, la80, lx8]
        refine goT_of T90 ?_
        simp only [rowI] at ap lx11 st11
        simp [t6, t8, t9, st10, st11, rowI, lx11, z6, ap, e3]
        exact ⟨k, Nat.lt_succ_self k, i1, pr.2.1, pr.2.2, acc ++ [pr.1], x9, _, by omega, by simp [hacc, hi1], by simp [t1], by simp [t6], by simp [t7], by simp, by simp, DA, hw3⟩
end Go.Proofs.Ytkocomnfomjfiaa
