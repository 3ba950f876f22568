/-
  Chapter 8: which instruction may be, by the program.
-/
import Derived.Test.YtkocomnfomjfiaaSeatB
namespace Go.Proofs.Ytkocomnfomjfiaa
open Go.Ot Go.RowKit
set_option linter.unusedSimpArgs false
set_option linter.unusedVariables false
def c2V (s : Sh) (x : In) : Bool := (s.two && (decide (x.op < 1) || decide (18 < x.op))) || (s.one && (decide (x.op < 19) || decide (21 < x.op)))
def c3V (s : Sh) (x : In) : Bool := (s.a && badR x.a) || (s.b && badR x.b) || (s.c && badR x.c)
def c4V (s : Sh) (x : In) : Bool := (!s.a && decide (x.a ≠ 0)) || (!s.b && decide (x.b ≠ 0)) || (!s.c && !s.cell && decide (x.c ≠ 0)) || (!s.k && decide (x.k ≠ 0)) || (!s.one && !s.two && decide (x.op ≠ 0))
def c5V (s : Sh) (x : In) (cells : Int) : Bool := s.cell && (decide (x.c < 0) || decide ((if 4 < cells then 4 else cells) ≤ x.c))
def c6V (s : Sh) (x : In) (long : Int) : Bool := s.target && (decide (x.k < 0) || decide (long ≤ x.k))
/-- What is wrong first with an instruction. -/
def oneV (x : In) (cells long : Int) : Int :=
  if valid x.kind = false then 81 else if c2V (shp x.kind) x = true then 81 else if c3V (shp x.kind) x = true then 82 else if c4V (shp x.kind) x = true then 83 else if c5V (shp x.kind) x cells = true then 63 else if c6V (shp x.kind) x long = true then 84 else 0
theorem L11_eq : L11 = .seq (.region [⟨some 3, .box 25 6 (.tmp 0), none⟩, ⟨some 6, .move (.const (.int .i64 0)), none⟩]) (.seq (.region [⟨some 10, .off 0 (.tmp 3), none⟩, ⟨some 11, .load false 1 (.tmp 10), none⟩, ⟨some 12, .call 26 [.tmp 11], none⟩, ⟨some 9, .move (.tmp 12), none⟩, ⟨some 13, .extract (.tmp 9) 0, none⟩, ⟨some 14, .extract (.tmp 9) 1, none⟩, ⟨some 7, .new 53 8 [.bool false, .bool false, .bool false, .bool false, .bool false, .bool false, .bool false, .bool false], none⟩, ⟨none, .store 8 (.tmp 7) (.tmp 13), none⟩, ⟨some 8, .move (.tmp 14), none⟩]) (.seq (.block 0 (.seq (.region [⟨some 16, .move (.tmp 8), none⟩, ⟨some 17, .un .not (.tmp 16), none⟩, ⟨some 15, .move (.tmp 17), none⟩]) (.cond (.tmp 15) (.seq (.region [⟨some 6, .move (.const (.int .i64 81)), none⟩]) (.ret)) B11))) (.seq (.region [⟨some 6, .move (.const (.int .i64 0)), none⟩]) (.ret)))) := rfl
theorem rule2 {H : Heap} {t : Tm} {bx bs : Nat} {x : In} {s : Sh} {cells long : Int} (h : O1 H t bx bs x s cells long) {Q : Post}
    (hQ : ∀ t' : Tm, O1 H t' bx bs x s cells long → t' 18 = .bool (c2V s x) → Q .normal t' (rdy H)) : wpA Try.prog (.seq Rc2a (.cond (.tmp 18) .skip Rc2b)) Q t (rdy H) := by
  rw [wpA_seq]
  refine pc2a h fun t1 h1 e1 => ?_
  rw [thenA_normal, wpA_cond, ev_tmp, e1]
  cases hv : (s.two && (decide (x.op < 1) || decide (18 < x.op))) with
  | true =>
    rw [goC_true, wpA_skip]
    exact hQ t1 h1 (by rw [e1, c2V, hv]; rfl)
  | false =>
    rw [goC_false]
    exact pc2b h1 fun t2 h2 e2 => hQ t2 h2 (by rw [e2, c2V, hv]; rfl)
theorem rule3 {H : Heap} {t : Tm} {bx bs : Nat} {x : In} {s : Sh} {cells long : Int} (h : O1 H t bx bs x s cells long) {Q : Post}
    (hQ : ∀ t' : Tm, O1 H t' bx bs x s cells long → t' 43 = .bool (c3V s x) → Q .normal t' (rdy H)) : wpA Try.prog (.seq Rc3a (.cond (.tmp 43) .skip (.seq Rc3b (.cond (.tmp 43) .skip Rc3c)))) Q t (rdy H) := by
  rw [wpA_seq]
  refine pc3a h fun t1 h1 e1 => ?_
  rw [thenA_normal, wpA_cond, ev_tmp, e1]
  cases hv : (s.a && badR x.a) with
  | true =>
    rw [goC_true, wpA_skip]
    exact hQ t1 h1 (by rw [e1, c3V, hv]; rfl)
  | false =>
    rw [goC_false, wpA_seq]
    refine pc3b h1 fun t2 h2 e2 => ?_
    rw [thenA_normal, wpA_cond, ev_tmp, e2]
    cases hv2 : (s.b && badR x.b) with
    | true =>
      rw [goC_true, wpA_skip]
      exact hQ t2 h2 (by rw [e2, c3V, hv, hv2]; rfl)
    | false =>
      rw [goC_false]
      exact pc3c h2 fun t3 h3 e3 => hQ t3 h3 (by rw [e3, c3V, hv, hv2]; rfl)
theorem rule4 {H : Heap} {t : Tm} {bx bs : Nat} {x : In} {s : Sh} {cells long : Int} (h : O1 H t bx bs x s cells long) {Q : Post}
    (hQ : ∀ t' : Tm, O1 H t' bx bs x s cells long → t' 68 = .bool (c4V s x) → Q .normal t' (rdy H)) :
    wpA Try.prog (.seq Rc4a (.cond (.tmp 68) .skip (.seq Rc4b (.cond (.tmp 68) .skip (.seq Rc4c (.cond (.tmp 68) .skip (.seq Rc4k (.cond (.tmp 68) .skip Rc4o)))))))) Q t (rdy H) := by
  rw [wpA_seq]
  refine pc4a h fun t1 h1 e1 => ?_
  rw [thenA_normal, wpA_cond, ev_tmp, e1]
  cases hv : (!s.a && decide (x.a ≠ 0)) with
  | true =>
    rw [goC_true, wpA_skip]
    exact hQ t1 h1 (by rw [e1, c4V, hv]; rfl)
  | false =>
    rw [goC_false, wpA_seq]
    refine pc4b h1 fun t2 h2 e2 => ?_
    rw [thenA_normal, wpA_cond, ev_tmp, e2]
    cases hv2 : (!s.b && decide (x.b ≠ 0)) with
    | true =>
      rw [goC_true, wpA_skip]
      exact hQ t2 h2 (by rw [e2, c4V, hv, hv2]; rfl)
    | false =>
      rw [goC_false, wpA_seq]
      refine pc4c h2 fun t3 h3 e3 => ?_
      rw [thenA_normal, wpA_cond, ev_tmp, e3]
      cases hv3 : (!s.c && !s.cell && decide (x.c ≠ 0)) with
      | true =>
        rw [goC_true, wpA_skip]
        exact hQ t3 h3 (by rw [e3, c4V, hv, hv2, hv3]; rfl)
      | false =>
        rw [goC_false, wpA_seq]
        refine pc4k h3 fun t4 h4 e4 => ?_
        rw [thenA_normal, wpA_cond, ev_tmp, e4]
        cases hv4 : (!s.k && decide (x.k ≠ 0)) with
        | true =>
          rw [goC_true, wpA_skip]
          exact hQ t4 h4 (by rw [e4, c4V, hv, hv2, hv3, hv4]; rfl)
        | false =>
          rw [goC_false]
          exact pc4o h4 fun t5 h5 e5 => hQ t5 h5 (by rw [e5, c4V, hv, hv2, hv3, hv4]; rfl)
theorem fail_w {H : Heap} {t : Tm} (c : Int) {Q : Post} (hQ : ∀ t' : Tm, t' 6 = iv c → Q .ret t' (rdy H)) : wpA Try.prog (fail c) Q t (rdy H) := by
  simp [fail]
  exact hQ _ (by simp)
theorem f1_w {H : Heap} {t : Tm} {d : Nat} {c : Int} {r : LCode} {v : Bool} (hd : t d = .bool v) {Q : Post} (h1 : v = true → ∀ t' : Tm, t' 6 = iv c → Q .ret t' (rdy H)) (h2 : v = false → wpA Try.prog r Q t (rdy H)) : wpA Try.prog (F1 d c r) Q t (rdy H) := by
  unfold F1
  rw [wpA_cond, ev_tmp, hd]
  cases v with
  | true => rw [goC_true]; exact fail_w c (h1 rfl)
  | false => rw [goC_false]; exact h2 rfl
/-- The body: it goes on behind, where all is right; or it ends with what is wrong. -/
theorem b11 {H : Heap} {t : Tm} {bx bs : Nat} {x : In} {s : Sh} {cells long : Int} (h : O1 H t bx bs x s cells long) {Q : Post}
    (hf : ∀ (t' : Tm) (c : Int), c ≠ 0 → c = (if c2V s x = true then 81 else if c3V s x = true then 82 else if c4V s x = true then 83 else if c5V s x cells = true then 63 else if c6V s x long = true then 84 else 0) → t' 6 = iv c → Q .ret t' (rdy H))
    (hn : ∀ t' : Tm, (if c2V s x = true then (81 : Int) else if c3V s x = true then 82 else if c4V s x = true then 83 else if c5V s x cells = true then 63 else if c6V s x long = true then 84 else 0) = 0 → Q .normal t' (rdy H)) : wpA Try.prog B11 Q t (rdy H) := by
  rw [B11_eq, wpA_seq]
  refine rule2 h fun t1 h1 e1 => ?_
  rw [thenA_normal]
  refine f1_w e1 (fun hv t' h6 => ?_) (fun hv1 => ?_)
  · exact hf t' 81 (by decide) (by rw [if_pos hv]) h6
  rw [wpA_seq]
  refine rule3 h1 fun t2 h2 e2 => ?_
  rw [thenA_normal]
  refine f1_w e2 (fun hv t' h6 => ?_) (fun hv2 => ?_)
  · exact hf t' 82 (by decide) (by rw [if_neg (by simp [hv1]), if_pos hv]) h6
  rw [wpA_seq]
  refine rule4 h2 fun t3 h3 e3 => ?_
  rw [thenA_normal]
  refine f1_w e3 (fun hv t' h6 => ?_) (fun hv3 => ?_)
  · exact hf t' 83 (by decide) (by rw [if_neg (by simp [hv1]), if_neg (by simp [hv2]), if_pos hv]) h6
  rw [wpA_seq]
  refine pc5 h3 fun t4 h4 e4 => ?_
  rw [thenA_normal]
  refine f1_w e4 (fun hv t' h6 => ?_) (fun hv4 => ?_)
  · exact hf t' 63 (by decide) (by rw [if_neg (by simp [hv1]), if_neg (by simp [hv2]), if_neg (by simp [hv3]), if_pos (show c5V s x cells = true from hv)]) h6
  rw [wpA_seq]
  refine pc6 h4 fun t5 h5 e5 => ?_
  rw [thenA_normal]
  refine f1_w e5 (fun hv t' h6 => ?_) (fun hv5 => ?_)
  · exact hf t' 84 (by decide) (by rw [if_neg (by simp [hv1]), if_neg (by simp [hv2]), if_neg (by simp [hv3]), if_neg (show ¬ c5V s x cells = true by rw [show c5V s x cells = false from hv4]; simp), if_pos (show c6V s x long = true from hv)]) h6
  rw [wpA_skip]
  refine hn t5 ?_
  rw [if_neg (by simp [hv1]), if_neg (by simp [hv2]), if_neg (by simp [hv3]), if_neg (show ¬ c5V s x cells = true by rw [show c5V s x cells = false from hv4]; simp), if_neg (show ¬ c6V s x long = true by rw [show c6V s x long = false from hv5]; simp)]
theorem one_T {H : Heap} (hw : H.WF) (x : In) (cells long : Int) : ∃ v H', T Try.prog 11 [.agg (rowI x).toArray, iv cells, iv long] H v H' ∧ v = iv (oneV x cells long) ∧ Same H H' [] := by
  refine T_by hm light11 ?_
  have hnB := hw.next_ge
  obtain ⟨H1, hH1⟩ : ∃ H1, H1 = H.new 25 6 (rowI x) := ⟨_, rfl⟩
  have w1 : H1.WF := by rw [hH1]; exact WF_new hw _ _ _
  have l1 : ∀ j, H1.load ⟨H.next, j, none⟩ = (rowI x)[j]? := by rw [hH1]; exact new_load hw 25 6 (rowI x)
  have n1 : H1.next = H.next + 1 := by rw [hH1]; rfl
  have k1 : ∀ b, b < H.next → H1.blk b = H.blk b := fun b hb => by rw [hH1]; simp [show b ≠ H.next by omega]
  obtain ⟨v2, H2, T2, rfl, s2⟩ := shape_T w1 x.kind
  have w2 := T2.grow.wf w1
  have n2 := T2.grow.next
  have st3 := new_storeA w2 53 8 [.bool false, .bool false, .bool false, .bool false, .bool false, .bool false, .bool false, .bool false] (rowS (shp x.kind)) rfl rfl (by decide)
  obtain ⟨H3, hH3⟩ : ∃ H3, H3 = H2.new 53 8 (rowS (shp x.kind)) := ⟨_, rfl⟩
  rw [← hH3] at st3
  have k3 : ∀ b, b < H1.next → H3.blk b = H1.blk b := fun b hb => by rw [hH3]; simp [show b ≠ H2.next by omega]; exact s2 b hb (by simp)
  have b3 : H3.base = H1.base := by rw [hH3]; exact T2.1
  have lx : ∀ j, H3.load ⟨H.next, j, none⟩ = (rowI x)[j]? := fun j => by rw [load_frame b3 (k3 _ (by omega))]; exact l1 j
  have ls : ∀ j, H3.load ⟨H2.next, j, none⟩ = (rowS (shp x.kind))[j]? := by rw [hH3]; exact new_load w2 53 8 (rowS (shp x.kind))
  have sm : Same H H3 [] := fun b hb _ => (k3 b (by omega)).trans (k1 b hb)
  obtain ⟨r, hr⟩ : ∃ r, r = oneV x cells long := ⟨_, rfl⟩
  rw [← hr]
  unfold oneV at hr
  obtain ⟨s, hs⟩ : ∃ s, s = shp x.kind := ⟨_, rfl⟩
  obtain ⟨va, hva⟩ : ∃ va, va = valid x.kind := ⟨_, rfl⟩
  rw [← hs, ← hva] at hr
  rw [← hs] at st3 T2 ls
  rw [← hva] at T2
  have lk : H1.load ⟨H.next, 0, none⟩ = some (iv x.kind) := l1 0
  rw [L11_eq]
  simp
  refine ⟨rfl, ?_⟩
  rw [← hH1]
  simp [lk]
  refine goT_of T2 ?_
  simp [st3]
  cases va with
  | false =>
    rw [if_pos rfl] at hr
    subst hr
    simp
    exact sm
  | true =>
    rw [if_neg (by simp)] at hr
    simp
    refine b11 (bx := H.next) (bs := H2.next) (x := x) (s := s) (cells := cells) (long := long) ⟨by simp, by simp, by simp, by simp, lx, ls⟩ (fun t' c h0 hc h6 => ?_) (fun t' h0 => ?_)
    · rw [← hr] at hc
      subst hc
      simp [h6]
      exact sm
    · rw [← hr] at h0
      subst h0
      simp
      exact sm
end Go.Proofs.Ytkocomnfomjfiaa
