/-
  Chapter 25: the program's reader: an item as often as is said.
-/
import Derived.Test.YtmdlfenileiaeaaSeatB
namespace Go.Proofs.Ytmdlfenileiaeaa
open Go.Ot Go.RowKit
set_option linter.unusedSimpArgs false
set_option linter.unusedVariables false
abbrev Ent := Int × Bool
def erow (e : Ent) : List Value := [iv e.1, .bool e.2]
def ec (l : List Ent) : List Value := (l.map erow).flatten
theorem ec_append (a b : List Ent) : ec (a ++ b) = ec a ++ ec b := by simp [ec]
theorem ec_len (l : List Ent) : (ec l).length = l.length * 2 := by
  induction l with
  | nil => rfl
  | cons a l ih => simp [ec, erow] at ih ⊢; omega
inductive Res where
  | ok (l : List Ent) (a : Nat)
  | err (e : Int) (a : Nat)
def repGo (a : Nat) (l one : List Ent) (many a2 : Nat) : Res := if 40000 < l.length + many * one.length then .err 251 a else .ok (l ++ (List.replicate many one).flatten) a2
def repP (S : List Nat) (a : Nat) (l one : List Ent) : Res :=
  if a < S.length ∧ S.getD a 0 = 42 then (match numAt S (a + 1) with
    | some v => repGo a l one v (run isD S (a + 1))
    | none => .err 250 (a + 1))
  else repGo a l one 1 a
theorem own_src {H : Heap} {ety sz n : Nat} {cells : List Value} {x : Value} (h : Own H ety sz n cells x) (h0 : 0 < sz) : srcCells H sz x = some (n, cells) := by
  rcases h.2 with ⟨rfl, rfl⟩ | ⟨b, rest, rfl, hB, hk⟩
  · have : cells = [] := List.length_eq_zero_iff.1 (by have := h.1; omega)
    subst this; rfl
  · rw [src_at (ety := ety) (cs := cells ++ rest) hB hk (by have := h.1; simp; omega)]
    have := h.1
    simp [← this]
/-- All stands but the reader and a row. -/
structure Fx (H H1 : Heap) (p : Nat) (x : Value) : Prop where
  wf : H1.WF
  base : H1.base = H.base
  next : H.next ≤ H1.next
  keep : ∀ b, b < H.next → b ≠ p → blkOf x ≠ some b → H1.blk b = H.blk b
theorem Fr.fx {H H1 : Heap} {p : Nat} (a : Fr H H1 p) (x : Value) : Fx H H1 p x := ⟨a.wf, a.base, a.next, fun b h1 h2 _ => a.keep b h1 h2⟩
def RepQ (s : ByteArray) (H : Heap) (p o : Nat) (x : Value) (R : Res) (r : Out) (H' : Heap) : Prop :=
  Fx H H' p x ∧ match R with
  | .ok l a => ∃ x', r = .ret x' ∧ Own H' 36 2 l.length (ec l) x' ∧ Vr H' p 67 3 (rdr s a o) ∧ blkOf x' ≠ some p ∧ ∀ b, blkOf x' = some b → blkOf x = some b ∨ H.next ≤ b
  | .err e a => r = .pan (stopV e a)
def InvRp (s : ByteArray) (H : Heap) (p a2 o : Nat) (x y : Value) (l one : List Ent) (many : Nat) (k : Nat) (t : Tm) (H1 : Heap) : Prop :=
  ∃ i x', i + k = many ∧ t 1 = x' ∧ t 2 = y ∧ t 58 = iv many ∧ t 59 = iv i ∧ Fx H H1 p x ∧ Own H1 36 2 (l ++ (List.replicate i one).flatten).length (ec (l ++ (List.replicate i one).flatten)) x' ∧ Own H1 36 2 one.length (ec one) y ∧ Vr H1 p 67 3 (rdr s a2 o) ∧ blkOf x' ≠ some p ∧ (∀ b, blkOf x' = some b → blkOf x = some b ∨ H.next ≤ b) ∧ (∀ b, blkOf x' = some b → blkOf y ≠ some b)
theorem rep_loop {H H0 : Heap} (hw : H.WF) {p a2 o : Nat} {s : ByteArray} {x y : Value} {l one : List Ent} {many : Nat} (fx0 : Fx H H0 p x) (V : Vr H0 p 67 3 (rdr s a2 o)) (ox : Own H0 36 2 l.length (ec l) x) (oy : Own H0 36 2 one.length (ec one) y) (px : blkOf x ≠ some p) (py : blkOf y ≠ some p) (ylt : ∀ b, blkOf y = some b → b < H.next) (xy : ∀ b, blkOf x = some b → blkOf y ≠ some b)
    (hfit : l.length + many * one.length ≤ 40000) (hmany : many < 2147483648) {Q : Exit → Tm → Heap → Prop} {t : Tm} (t1 : t 1 = x) (t2 : t 2 = y) (t58 : t 58 = iv many) (t59 : t 59 = iv 0)
    (hQ : ∀ tt H9 x9, tt 1 = x9 → Own H9 36 2 (l ++ (List.replicate many one).flatten).length (ec (l ++ (List.replicate many one).flatten)) x9 → Fx H H9 p x → Vr H9 p 67 3 (rdr s a2 o) → blkOf x9 ≠ some p → (∀ b, blkOf x9 = some b → blkOf x = some b ∨ H.next ≤ b) → Q (.exit 0) tt (rdy H9)) : wpN Try.prog (.loop L42_1) Q t (rdy H0) := by
  refine loopN_at (InvRp s H p a2 o x y l one many) many ?_ ?_
  · exact ⟨0, x, by omega, t1, t2, t58, t59, fx0, by simpa using ox, oy, V, px, fun b h => .inl h, xy⟩
  · rintro k tt H1 ⟨i, x', hik, u1, u2, u58, u59, fx, ox', oy', V', px', nx', xy'⟩
    obtain ⟨ay, hy⟩ := oy'.len
    cases k with
    | zero =>
      have ei : i = many := by omega
      subst ei
      have e1 : ¬ ((i : Int) < (i : Int)) := by omega
      simp [L42_1, u58, u59]
      exact hQ _ H1 x' (by simp [u1]) ox' fx V' px' nx'
    | succ k =>
      have e1 : ((i : Int) < (many : Int)) := by omega
      by_cases h0 : one.length = 0
      · have hone : one = [] := List.length_eq_zero_iff.1 h0
        have hflat : ∀ m : Nat, l ++ (List.replicate m one).flatten = l := by intro m; simp [hone]
        rw [hflat] at ox'
        rw [hy, h0] at u2
        simp [L42_1, u58, u59, u2, e1]
        refine hQ _ H1 x' (by simp [u1]) (by rw [hflat]; exact ox') fx V' px' nx'
      · have hlen1 : (l ++ (List.replicate i one).flatten).length = l.length + i * one.length := by simp
        have hmul : (i + 1) * one.length ≤ many * one.length := Nat.mul_le_mul_right _ (by omega)
        rw [Nat.add_mul, Nat.one_mul] at hmul
        have src := own_src oy' (by decide : 0 < 2)
        have ap := append_any (bytes := 16) ox' src h0 (by rw [hlen1]; omega)
        obtain ⟨H2, hH2⟩ : ∃ H2, H2 = (H1.drop x').new 36 2 (ec (l ++ (List.replicate i one).flatten) ++ ec one) := ⟨_, rfl⟩
        rw [← hH2] at ap
        have e4 : IntKind.i64.wrap ((i : Int) + 1) = ((i + 1 : Nat) : Int) := by rw [w64 _ (by omega)]; omega
        obtain ⟨iN, hiN⟩ : ∃ n, n = i + 1 := ⟨_, rfl⟩
        have hrep : l ++ (List.replicate iN one).flatten = (l ++ (List.replicate i one).flatten) ++ one := by
          rw [hiN, List.replicate_succ', List.flatten_append]; simp
        have hb0 : (one.length == 0) = false := by simpa using h0
        have w2 : H2.WF := by rw [hH2]; exact WF_new (WF_drop fx.wf _) _ _ _
        have hn1 := fx.wf.next_ge
        have n2 : H2.next = H1.next + 1 := by rw [hH2]; simp
        have b2 : H2.base = H1.base := by rw [hH2]; simp
        have k2 : ∀ b, b < H1.next → blkOf x' ≠ some b → H2.blk b = H1.blk b := fun b hb hx => by
          rw [hH2]; simp [show b ≠ H1.next by omega, blk_drop, hx]
        have nx1 := fx.next
        obtain ⟨x2, hx2⟩ : ∃ x2 : Value, x2 = .slice (some ⟨H1.next, 0, none⟩) ((l ++ (List.replicate i one).flatten).length + one.length) 0 := ⟨_, rfl⟩
        rw [← hx2] at ap
        have bx2 : ∀ b, blkOf x2 = some b → b = H1.next := fun b hb => by rw [hx2] at hb; exact (Option.some.inj hb).symm
        have plt := fx.wf.lt V'.bq
        rw [← hiN] at e4
        have u2' := u2
        rw [hy] at u2
        rw [hy] at ap
        have hbI : ((one.length : Int) == 0) = false := by simpa using h0
        simp [L42_1, u58, u59, u1, u2, e1, h0, hbI, ap, e4]
        have ylt1 : ∀ b, blkOf y = some b → b < H1.next := fun b hb => oy'.lt fx.wf hb
        refine ⟨k, by omega, iN, x2, by omega, by simp, by simp [u2'], by simp [u58], by simp, ⟨w2, b2.trans fx.base, ?_, fun b h1 h2 h3 => ?_⟩, ?_, ?_, V'.keep b2 (k2 p plt px'), ?_, ?_, ?_⟩
        · show H.next ≤ H2.next
          omega
        · show H2.blk b = H.blk b
          rw [k2 b (by omega) (fun e => by
            rcases nx' b e with h | h
            · exact h3 h
            · omega), fx.keep b h1 h2 h3]
        · show Own H2 36 2 _ _ x2
          rw [hrep, List.length_append, ec_append, hx2]
          refine Own.mk (by rw [List.length_append, ec_len, ec_len]; omega) (by rw [B_eq b2]; exact hn1) ?_
          rw [hH2]; simp
        · exact oy'.keep (B_eq b2) (fun b hb => k2 b (ylt1 b hb) (fun e => xy' b e hb))
        · intro e
          have := bx2 p e
          omega
        · intro b e
          right
          have := bx2 b e
          omega
        · intro b e h
          have := bx2 b e
          have := ylt1 b h
          omega
def seqR : LCode → LCode | .seq _ b => b | c => c
def seqL : LCode → LCode | .seq a _ => a | c => c
def L42t : LCode := seqR (seqR (seqR L42))
theorem L42_eq : L42 = .seq (seqL L42) (.seq (seqL (seqR L42)) (.seq (seqL (seqR (seqR L42))) L42t)) := rfl
section
variable {H : Heap} (hw : H.WF) {p a o : Nat} {s : ByteArray} {x y : Value} {l one : List Ent} (ox : Own H 36 2 l.length (ec l) x) (oy : Own H 36 2 one.length (ec one) y) (px : blkOf x ≠ some p) (py : blkOf y ≠ some p) (xy : ∀ b, blkOf x = some b → blkOf y ≠ some b)
    (hl1 : l.length ≤ 40000) (hl2 : one.length ≤ 40000)
include hw ox oy px py xy hl1 hl2
/-- Behind the number. -/
theorem rep_tail {H2 : Heap} (fr : Fr H H2 p) {a2 many : Nat} (V2 : Vr H2 p 67 3 (rdr s a2 o)) (hmany : many < 2147483648) {t : Tm} (t0 : t 0 = ptr p) (t1 : t 1 = x) (t2 : t 2 = y) (t7 : t 7 = iv many) (t8 : t 8 = iv a) :
    wpN Try.prog L42t (EndN (RepQ s H p o x (repGo a l one many a2)) [.tmp 6]) t (rdy H2) := by
  have ox2 := Own.fr hw ox px fr
  have oy2 := Own.fr hw oy py fr
  obtain ⟨ax, hx⟩ := ox.len
  obtain ⟨ay, hy⟩ := oy.len
  have ylt : ∀ b, blkOf y = some b → b < H.next := fun b hb => oy.lt hw hb
  have w40 : IntKind.i64.wrap (40000 - (l.length : Int)) = ((40000 - l.length : Nat) : Int) := by rw [w64 _ (by omega)]; omega
  obtain ⟨room, hroom⟩ : ∃ r, r = 40000 - l.length := ⟨_, rfl⟩
  rw [← hroom] at w40
  have T1 := times_T (H := H2) many one.length (by omega) (by omega)
  have hcast : (many : Int) * (one.length : Int) = ((many * one.length : Nat) : Int) := by rw [Int.natCast_mul]
  rw [hcast] at T1
  obtain ⟨prod, hprod⟩ : ∃ m, m = many * one.length := ⟨_, rfl⟩
  rw [← hprod] at T1
  have gN := give_N (H := H2.put p (rdr s a o)) (V2.put (rdr s a o)) 251
  have hst1 : H2.store ⟨p, 1, none⟩ (iv a) = some (H2.put p (rdr s a o)) := by rw [V2.store 1 _ (by simp [rdr])]; rfl
  have t1' := t1
  have t2' := t2
  rw [hx] at t1
  rw [hy] at t2
  by_cases hov : room < prod
  · have e2 : repGo a l one many a2 = .err 251 a := by unfold repGo; rw [if_pos (by omega)]
    rw [e2]
    simp [L42t, seqR, L42, t0, t1, t2, t7, t8]
    refine goN_T T1 ?_
    simp [t1, w40, hov, t0, t8, hst1]
    refine goN_of gN ?_
    rintro r H' ⟨rfl, rfl⟩ _ _ _
    simp
    exact ⟨(fr.put _).fx x, rfl⟩
  · have e2 : repGo a l one many a2 = .ok (l ++ (List.replicate many one).flatten) a2 := by unfold repGo; rw [if_neg (by omega)]
    rw [e2]
    simp [L42t, seqR, L42, t0, t1, t2, t7, t8]
    refine goN_T T1 ?_
    simp [t1, w40, hov, t7]
    refine rep_loop (x := x) (y := y) (l := l) (one := one) (many := many) hw (fr.fx x) V2 ox2 oy2 px py ylt xy (by omega) hmany (by simp [t1']) (by simp [t2']) (by simp) (by simp) ?_
    intro tt H9 x9 u1 o9 fx9 V9 px9 nx9
    obtain ⟨a9, h9⟩ := o9.len
    have hnt : notTup x9 = true := by rw [h9]; rfl
    simp [u1, hnt]
    exact ⟨fx9, x9, rfl, o9, V9, px9, nx9⟩
theorem repeat_N (V : Vr H p 67 3 (rdr s a o)) (ha : a ≤ (bts s).length) (hl : (bts s).length ≤ 100000) : TN Try.prog 42 [ptr p, x, y] H (RepQ s H p o x (repP (bts s) a l one)) := by
  refine N_by hm light42 ?_
  have l0 : H.load ⟨p, 0, none⟩ = some (.string s) := V.load 0
  have l1 : H.load ⟨p, 1, none⟩ = some (iv a) := V.load 1
  have plt := hw.lt V.bq
  have tail := @rep_tail H hw p a o s x y l one ox oy px py xy hl1 hl2
  obtain ⟨ax, hx⟩ := ox.len
  obtain ⟨ay, hy⟩ := oy.len
  have n1 : notTup x = true := by rw [hx]; rfl
  have n2 : notTup y = true := by rw [hy]; rfl
  obtain ⟨RR, hRR⟩ : ∃ R, R = repP (bts s) a l one := ⟨_, rfl⟩
  rw [← hRR]
  unfold repP at hRR
  rw [L42_eq]
  by_cases hst : a < (bts s).length ∧ (bts s).getD a 0 = 42
  · rw [if_pos hst] at hRR
    obtain ⟨hal, hc⟩ := hst
    have ix := idx_str s hal
    have hgd : (bts s).getD a 0 = (bts s)[a] := by simp [List.getD, hal]
    rw [← hgd, hc] at ix
    have e1 : (a : Int) < (s.size : Int) := by rw [len_str]; omega
    have e4 : IntKind.i64.wrap ((a : Int) + 1) = ((a + 1 : Nat) : Int) := by rw [w64 _ (by omega)]; omega
    obtain ⟨a1, ha1⟩ : ∃ n, n = a + 1 := ⟨_, rfl⟩
    rw [← ha1] at e4 hRR
    have hst1 : H.store ⟨p, 1, none⟩ (iv a1) = some (H.put p (rdr s a1 o)) := by rw [V.store 1 _ (by simp [rdr])]; rfl
    have V1 : Vr (H.put p (rdr s a1 o)) p 67 3 (rdr s a1 o) := V.put _
    have fr1 : Fr H (H.put p (rdr s a1 o)) p := (Fr.refl hw p).put _
    have nN := number_N fr1.wf V1 (by omega) hl
    simp [L42, seqL, seqR, l0, l1, e1, ix, e4, hst1]
    refine goN_of nN ?_
    intro r H' hq w' b' n'
    unfold NumQ at hq
    cases hna : numAt (bts s) a1 with
    | none =>
      rw [hna] at hq hRR
      obtain ⟨rfl, fr2⟩ := hq
      subst hRR
      simp
      exact ⟨(fr1.trans fr2).fx x, rfl⟩
    | some v =>
      rw [hna] at hq hRR
      obtain ⟨rfl, rfl⟩ := hq
      have hv : v < 2147483648 := by
        unfold numAt at hna
        split at hna
        · cases hna; rename_i h; exact h.2
        · cases hna
      simp
      rw [hRR]
      exact tail (fr1.put _) (V1.put _) hv (by simp) (by simp) (by simp) (by simp) (by simp)
  · rw [if_neg hst] at hRR
    have star : (¬ (a : Int) < (s.size : Int)) ∨ ∃ c, (a : Int) < (s.size : Int) ∧ sIdxStr (.string s) (iv a) = some (bv c) ∧ ((c : Int) == 42) = false := by
      by_cases hal : a < (bts s).length
      · right
        refine ⟨(bts s)[a], by rw [len_str]; omega, idx_str s hal, ?_⟩
        have : (bts s).getD a 0 = (bts s)[a] := by simp [List.getD, hal]
        rw [this] at hst
        have : (bts s)[a] ≠ 42 := fun h => hst ⟨hal, h⟩
        simp; omega
      · left; rw [len_str]; omega
    rw [hRR]
    rcases star with e1 | ⟨c, e1, ix, hc⟩
    · simp [L42, seqL, seqR, l0, l1, e1]
      exact tail (Fr.refl hw p) V (by decide) (by simp) (by simp) (by simp) (by simp) (by simp)
    · simp [L42, seqL, seqR, l0, l1, e1, ix, hc]
      exact tail (Fr.refl hw p) V (by decide) (by simp) (by simp) (by simp) (by simp) (by simp)
end
end Go.Proofs.Ytmdlfenileiaeaa
