/-
  Chapter 8: a text's bytes, by the program.
-/
import Derived.Test.YtkocomnfomjfiaaSeatF
namespace Go.Proofs.Ytkocomnfomjfiaa
open Go.Ot Go.RowKit
set_option linter.unusedSimpArgs false
set_option linter.unusedVariables false
theorem AF.beside {H H1 H2 : Heap} {p : Nat} {x x1 : Value} {bs : List Nat} (a : AF H H1 p x bs x1) (hb : H2.base = H1.base) (hn : H1.next ≤ H2.next) (hw : H2.WF) (hk : ∀ b, b < H1.next → H2.blk b = H1.blk b) : AF H H2 p x bs x1 :=
  ⟨hb.trans a.base, Nat.le_trans a.next hn, hw, ⟨by rw [B_eq hb]; exact a.wr.hp, by rw [hk p (a.wf.lt a.wr.bp)]; exact a.wr.bp, a.wr.own.keep (B_eq hb) (fun b h => hk b (a.wr.own.lt a.wf h)), a.wr.px⟩,
   fun b h1 h2 h3 => (hk b (Nat.lt_of_lt_of_le h1 a.next)).trans (a.same b h1 h2 h3), a.old⟩
/-- A block that the writer leaves alone. -/
def Off (H : Heap) (p : Nat) (x : Value) (b : Nat) : Prop := b < H.next ∧ b ≠ p ∧ blkOf x ≠ some b
theorem Off.af {H H1 : Heap} {p b : Nat} {x x1 : Value} {bs : List Nat} (h : Off H p x b) (a : AF H H1 p x bs x1) : Off H1 p x1 b ∧ H1.blk b = H.blk b := by
  obtain ⟨h1, h2, h3⟩ := h
  refine ⟨⟨Nat.lt_of_lt_of_le h1 a.next, h2, fun e => ?_⟩, a.same b h1 h2 h3⟩
  rcases a.old b e with h | h
  · exact h3 h
  · omega
theorem Off.new {H : Heap} (hw : H.WF) {p b : Nat} {x : Value} {bs : List Nat} (h : Off H p x b) (ty sz : Nat) (c : List Value) : Off (H.new ty sz c) p x b := ⟨by simp; have := h.1; omega, h.2⟩
def pairR (q : Bool × Int) : List Value := [.bool q.1, iv q.2]
def pairs (s : Sh) (x : In) : List (Bool × Int) := [(s.one || s.two, x.op), (s.a, x.a), (s.b, x.b), (s.c || s.cell, x.c)]
def encP (q : Bool × Int) : List Nat := if q.1 then encU q.2.toNat else []
def encPs (l : List (Bool × Int)) : List Nat := l.flatMap encP
def encIns (x : In) : List Nat := encU x.kind.toNat ++ encPs (pairs (shp x.kind) x) ++ (if (shp x.kind).k then encU (zz x.k) else [])
def encAll (l : List In) : List Nat := l.flatMap encIns
def okQ (q : Bool × Int) : Prop := q.1 = true → 0 ≤ q.2 ∧ q.2 ≤ 9223372036854775807
theorem encP_len {q : Bool × Int} (h : okQ q) : (encP q).length ≤ 10 := by
  unfold encP
  split
  · rename_i h1
    have := h h1
    exact encU_len 9 _ (by omega)
  · simp
theorem encPs_len {l : List (Bool × Int)} (h : ∀ q ∈ l, okQ q) : (encPs l).length ≤ 10 * l.length := by
  induction l with
  | nil => simp [encPs]
  | cons a l ih =>
    have h1 := ih (fun q hq => h q (by simp [hq]))
    have h2 := encP_len (h a (by simp))
    have e : encPs (a :: l) = encP a ++ encPs l := by simp [encPs]
    rw [e, List.length_append, List.length_cons]; omega
theorem encPs_append (a b : List (Bool × Int)) : encPs (a ++ b) = encPs a ++ encPs b := by simp [encPs]
def InvPr (H : Heap) (p : Nat) (x0 y : Value) (bs : List Nat) (l : List (Bool × Int)) (S : Tm → Prop) (k : Nat) (t : Tm) (H1 : Heap) : Prop :=
  ∃ (i : Nat) (x' : Value), i + k = l.length ∧ S t ∧ t 8 = ptr p ∧ t 75 = y ∧ t 76 = iv (l.length : Nat) ∧ t 77 = iv i ∧ AF H H1 p x0 (bs ++ encPs (l.take i)) x'
/-- What the loop over the parts leaves alone. -/
def Keeps (S : Tm → Prop) : Prop := ∀ (t : Tm) (d : Nat) (v : Value), (d = 78 ∨ d = 79 ∨ d = 80 ∨ d = 14 ∨ d = 81 ∨ d = 82 ∨ d = 83 ∨ d = 84 ∨ d = 85 ∨ d = 86 ∨ d = 87 ∨ d = 88 ∨ d = 77) → S t → S (put t (some d) v)
theorem pairs_w {H : Heap} {p : Nat} {x0 y : Value} {bs : List Nat} {l : List (Bool × Int)} {S : Tm → Prop} (hS : Keeps S) (hl : bs.length + 10 * l.length ≤ 100000000000000) (hq : ∀ q ∈ l, okQ q)
    (hy : ∀ H1 x' bs', AF H H1 p x0 bs' x' → Rws H1 2 y (l.map pairR)) {t : Tm} (hs : S t) (t8 : t 8 = ptr p) (t75 : t 75 = y) (t76 : t 76 = iv (l.length : Nat)) (t77 : t 77 = iv (0 : Nat)) (w0 : WR H p bs x0) (hw : H.WF) {Q : Post}
    (hQ : ∀ (t' : Tm) (H' : Heap) (x' : Value), S t' → t' 8 = ptr p → AF H H' p x0 (bs ++ encPs l) x' → Q (.exit 2) t' (rdy H')) : wpA Try.prog (.loop L18_1) Q t (rdy H) := by
  refine loop_at (InvPr H p x0 y bs l S) l.length ?_ ?_
  · exact ⟨0, x0, by omega, hs, t8, t75, t76, t77, by simpa [encPs] using Aft.refl hw w0⟩
  · rintro k t H1 ⟨i, x', hik, hs, t8, t75, t76, t77, a⟩
    cases k with
    | zero =>
      have e0 : i = l.length := by omega
      subst e0
      rw [List.take_length] at a
      simp [L18_1, t76, t77]
      exact hQ _ H1 x' (hS t 78 _ (by simp) hs) (by simp [t8]) a
    | succ k =>
      have hi : i < l.length := by omega
      obtain ⟨b, off, c, hyb, hlen, ld, _⟩ := (hy H1 x' _ a).at (i := i) (by simpa using hi)
      simp only [List.getElem_map, List.length_map] at hyb hlen ld
      have e3 : IntKind.i64.wrap ((i : Int) + 1) = ((i + 1 : Nat) : Int) := by rw [w64 _ (by omega)]; omega
      obtain ⟨i1, hi1⟩ : ∃ i1, i1 = i + 1 := ⟨_, rfl⟩
      rw [← hi1] at e3
      obtain ⟨q, hq'⟩ : ∃ q, q = l[i] := ⟨_, rfl⟩
      have hoq : okQ q := by rw [hq']; exact hq _ (List.getElem_mem hi)
      rw [← hq'] at ld
      have st := new_storeA a.wf 64 2 [.bool false, .int .i64 0] (pairR q) rfl rfl (by decide)
      have lo := new_load a.wf 64 2 (pairR q)
      have w2 : (H1.new 64 2 (pairR q)).WF := WF_new a.wf _ _ _
      have a2 := a.beside (H2 := H1.new 64 2 (pairR q)) rfl (by simp) w2 (fun b hb => by simp [show b ≠ H1.next by omega])
      have en : encPs (l.take i1) = encPs (l.take i) ++ encP q := by rw [hi1, List.take_succ_eq_append_getElem hi, encPs_append, hq']; simp [encPs]
      obtain ⟨has, n⟩ := q
      simp only [pairR] at st lo ld
      cases has with
      | false =>
        simp [L18_1, t75, t76, t77, hyb, hi, ld, st, lo, e3]
        refine ⟨k, Nat.lt_succ_self k, i1, x', by omega, ?_, by simp [t8], by simp [t75, hyb], by simp [t76], by simp, ?_⟩
        · repeat (refine hS _ _ _ (by simp) ?_)
          exact hs
        · rw [en, show encPs (l.take i) ++ encP (false, n) = encPs (l.take i) by simp [encP]]
          exact a2
      | true =>
        have hn := hoq rfl
        simp only at hn
        have c1 : IntKind.u64.wrap n = ((n.toNat : Nat) : Int) := by rw [wu64 _ (by omega)]; omega
        have hlen2 : (encPs (l.take i)).length ≤ 10 * l.length := by
          have := encPs_len (l := l.take i) (fun q hq2 => hq q (List.mem_of_mem_take hq2))
          have h3 : (l.take i).length ≤ l.length := by simp; omega
          omega
        obtain ⟨v5, H5, T5, x5, a5⟩ := uint_T a2.wf a2.wr (n := n.toNat) (by omega) (by rw [List.length_append]; omega)
        obtain ⟨nn, hnn⟩ : ∃ nn, nn = n.toNat := ⟨_, rfl⟩
        rw [← hnn] at c1 T5 a5
        simp [L18_1, t8, t75, t76, t77, hyb, hi, ld, st, lo, c1]
        refine goT_of T5 ?_
        simp [t77, e3]
        refine ⟨k, Nat.lt_succ_self k, i1, x5, by omega, ?_, by simp [t8], by simp [t75, hyb], by simp [t76], by simp, ?_⟩
        · repeat (refine hS _ _ _ (by simp) ?_)
          exact hs
        · rw [en]
          have := a2.trans a5
          simp only [encP, if_true]
          rw [← List.append_assoc, ← hnn]
          exact this
def G18 : List LIns := [⟨some 47, .off 6 (.tmp 11), none⟩, ⟨some 48, .load false 1 (.tmp 47), none⟩, ⟨some 49, .move (.tmp 48), none⟩, ⟨some 50, .off 7 (.tmp 11), (some (49, false))⟩, ⟨some 51, .load false 1 (.tmp 50), (some (49, false))⟩, ⟨some 52, .pick (.tmp 49) (.const (.bool true)) (.tmp 51), none⟩, ⟨some 53, .off 1 (.tmp 10), none⟩, ⟨some 54, .load false 1 (.tmp 53), none⟩, ⟨some 55, .build [.bool false, .int .i64 0] [(0, 1, .tmp 52), (1, 1, .tmp 54)], none⟩, ⟨some 56, .off 0 (.tmp 11), none⟩, ⟨some 57, .load false 1 (.tmp 56), none⟩, ⟨some 58, .off 2 (.tmp 10), none⟩, ⟨some 59, .load false 1 (.tmp 58), none⟩, ⟨some 60, .build [.bool false, .int .i64 0] [(0, 1, .tmp 57), (1, 1, .tmp 59)], none⟩, ⟨some 61, .off 1 (.tmp 11), none⟩, ⟨some 62, .load false 1 (.tmp 61), none⟩, ⟨some 63, .off 3 (.tmp 10), none⟩, ⟨some 64, .load false 1 (.tmp 63), none⟩, ⟨some 65, .build [.bool false, .int .i64 0] [(0, 1, .tmp 62), (1, 1, .tmp 64)], none⟩, ⟨some 66, .off 2 (.tmp 11), none⟩, ⟨some 67, .load false 1 (.tmp 66), none⟩, ⟨some 68, .move (.tmp 67), none⟩, ⟨some 69, .off 3 (.tmp 11), (some (68, false))⟩, ⟨some 70, .load false 1 (.tmp 69), (some (68, false))⟩, ⟨some 71, .pick (.tmp 68) (.const (.bool true)) (.tmp 70), none⟩, ⟨some 72, .off 4 (.tmp 10), none⟩, ⟨some 73, .load false 1 (.tmp 72), none⟩, ⟨some 74, .build [.bool false, .int .i64 0] [(0, 1, .tmp 71), (1, 1, .tmp 73)], none⟩, ⟨some 75, .buildSlice 64 2 4 [.bool false, .int .i64 0] [(0, 2, .tmp 55), (2, 2, .tmp 60), (4, 2, .tmp 65), (6, 2, .tmp 74)], none⟩, ⟨some 76, .len (.tmp 75), none⟩, ⟨some 77, .move (.const (.int .i64 0)), none⟩]
theorem L18_2_eq : L18_2 = .seq (.region [⟨some 33, .bin .lss (.tmp 32) (.tmp 31), none⟩]) (.seq (.cond (.tmp 33) (.skip) (.exit 0)) (.seq (.block 1 (.seq (.region [⟨some 34, .idx 6 (.tmp 30) (.tmp 32), none⟩, ⟨some 35, .load true 6 (.tmp 34), none⟩, ⟨some 10, .new 25 6 [.int .i64 0, .int .i64 0, .int .i64 0, .int .i64 0, .int .i64 0, .int .i64 0], none⟩, ⟨none, .store 6 (.tmp 10) (.tmp 35), none⟩]) (.seq (.region [⟨some 37, .off 0 (.tmp 10), none⟩, ⟨some 38, .load false 1 (.tmp 37), none⟩, ⟨some 39, .call 26 [.tmp 38], none⟩, ⟨some 36, .move (.tmp 39), none⟩, ⟨some 40, .extract (.tmp 36) 0, none⟩, ⟨some 41, .extract (.tmp 36) 1, none⟩, ⟨some 11, .new 53 8 [.bool false, .bool false, .bool false, .bool false, .bool false, .bool false, .bool false, .bool false], none⟩, ⟨none, .store 8 (.tmp 11) (.tmp 40), none⟩, ⟨some 12, .move (.tmp 41), none⟩]) (.seq (.region [⟨some 42, .move (.tmp 8), none⟩, ⟨some 43, .off 0 (.tmp 10), none⟩, ⟨some 44, .load false 1 (.tmp 43), none⟩, ⟨some 45, .conv .u64 (.tmp 44), none⟩, ⟨some 46, .call 32 [.tmp 42, .tmp 45], none⟩]) (.seq (.seq (.region G18) (.block 2 (.loop L18_1))) (.seq (.region [⟨some 89, .off 4 (.tmp 11), none⟩, ⟨some 90, .load false 1 (.tmp 89), none⟩]) (.cond (.tmp 90) (.region [⟨some 91, .move (.tmp 8), none⟩, ⟨some 92, .off 5 (.tmp 10), none⟩, ⟨some 93, .load false 1 (.tmp 92), none⟩, ⟨some 94, .call 33 [.tmp 91, .tmp 93], none⟩]) (.skip)))))))) (.region [⟨some 95, .bin .add (.tmp 32) (.const (.int .i64 1)), none⟩, ⟨some 32, .move (.tmp 95), none⟩]))) := rfl
/-- What the parts of a round leave alone. -/
structure Kp (t t' : Tm) : Prop where
  k0 : t' 0 = t 0
  k1 : t' 1 = t 1
  k8 : t' 8 = t 8
  k10 : t' 10 = t 10
  k11 : t' 11 = t 11
  k30 : t' 30 = t 30
  k31 : t' 31 = t 31
  k32 : t' 32 = t 32
theorem Kp.keeps (t : Tm) : Keeps (Kp t) := by
  intro t' d v hd h
  obtain ⟨h0, h1, h8, h10, h11, h30, h31, h32⟩ := h
  rcases hd with rfl | rfl | rfl | rfl | rfl | rfl | rfl | rfl | rfl | rfl | rfl | rfl | rfl <;>
    exact ⟨by simp [h0], by simp [h1], by simp [h8], by simp [h10], by simp [h11], by simp [h30], by simp [h31], by simp [h32]⟩
def flatP (l : List (Bool × Int)) : List Value := (l.map pairR).flatten
theorem g18_w {H : Heap} {t : Tm} {bx bs : Nat} {x : In} {s : Sh} (t10 : t 10 = ptr bx) (t11 : t 11 = ptr bs) (lx : ∀ j, H.load ⟨bx, j, none⟩ = (rowI x)[j]?) (ls : ∀ j, H.load ⟨bs, j, none⟩ = (rowS s)[j]?) {K : Tm → Heap → Prop}
    (hK : ∀ t' : Tm, Kp t t' → t' 75 = sl H.next 4 → t' 76 = iv (4 : Nat) → t' 77 = iv (0 : Nat) → K t' (rdy (H.new 64 2 (flatP (pairs s x))))) : wpO Try.prog G18 K t (rdy H) := by
  have z8 : zerosA [.bool false, .int .i64 0] 8 = [.bool false, iv 0, .bool false, iv 0, .bool false, iv 0, .bool false, iv 0] := rfl
  simp only [rowI] at lx
  simp only [rowS] at ls
  unfold G18
  cases h1 : s.one <;> cases h2 : s.c <;>
    (simp [t10, t11, lx, ls, h1, h2, z8]
     have e : flatP (pairs s x) = [.bool (s.one || s.two), iv x.op, .bool s.a, iv x.a, .bool s.b, iv x.b, .bool (s.c || s.cell), iv x.c] := rfl
     simp only [h1, h2, Bool.true_or, Bool.false_or] at e
     have hK' := hK
     rw [e] at hK'
     exact hK' _ ⟨by simp, by simp, by simp, by simp [t10], by simp [t11], by simp, by simp, by simp⟩ (by simp) (by simp) (by simp))
theorem oks {x : In} {cells long : Int} (h : oneV x cells long = 0) : (∀ q ∈ pairs (shp x.kind) x, okQ q) ∧ 1 ≤ x.kind ∧ x.kind ≤ 13 := by
  unfold oneV at h
  cases hv : valid x.kind with
  | false => rw [if_pos hv] at h; cases h
  | true =>
    rw [if_neg (by simp [hv])] at h
    cases h2 : c2V (shp x.kind) x with
    | true => rw [if_pos h2] at h; cases h
    | false =>
      rw [if_neg (by simp [h2])] at h
      cases h3 : c3V (shp x.kind) x with
      | true => rw [if_pos h3] at h; cases h
      | false =>
        rw [if_neg (by simp [h3])] at h
        cases h4 : c4V (shp x.kind) x with
        | true => rw [if_pos h4] at h; cases h
        | false =>
          rw [if_neg (by simp [h4])] at h
          cases h5 : c5V (shp x.kind) x cells with
          | true => rw [if_pos h5] at h; cases h
          | false =>
            have hr : 1 ≤ x.kind ∧ x.kind ≤ 13 := by simpa [valid] using hv
            refine ⟨?_, hr⟩
            obtain ⟨s, hs⟩ : ∃ s, s = shp x.kind := ⟨_, rfl⟩
            rw [← hs] at h2 h3 h5 ⊢
            unfold c2V at h2
            unfold c3V badR at h3
            unfold c5V at h5
            simp only [Bool.or_eq_false_iff, Bool.and_eq_false_imp, decide_eq_false_iff_not] at h2 h3 h5
            intro q hq
            simp only [pairs, List.mem_cons, List.mem_nil_iff, or_false] at hq
            rcases hq with rfl | rfl | rfl | rfl <;> intro hh <;> simp only at hh ⊢
            · simp only [Bool.or_eq_true] at hh
              rcases hh with g | g
              · have := h2.2 g; omega
              · have := h2.1 g; omega
            · have := h3.1.1 hh; omega
            · have := h3.1.2 hh; omega
            · simp only [Bool.or_eq_true] at hh
              rcases hh with g | g
              · have := h3.2 g; omega
              · have := h5 g
                by_cases h44 : 4 < cells
                · rw [if_pos h44] at this; omega
                · rw [if_neg h44] at this; omega
end Go.Proofs.Ytkocomnfomjfiaa
