/-
  Chapter 26: instructions encoded, bytes sealed, by the document (carried over from chapters 8 and 2).
-/
import Derived.Test.YtnomffikflfilaaGreatSeatQA
namespace Go.Proofs.YtnomffikflfilaaGreat.E8
open Go.Ot Go.RowKit
set_option linter.unusedSimpArgs false
set_option linter.unusedVariables false
set_option maxRecDepth 100000
theorem OG.catX {H H1 H2 : Heap} {w e : List Nat} {x y v : Value} (a : OG H H1 x w y) (g : OG H1 H2 (.slice none 0 0) e v) (hl : w.length + e.length ≤ 140737488355328) :
    ∃ a' HA, sAppend H2 5 1 1 y v = some (.slice a' (w.length + e.length) 0, HA) ∧ OG H HA x (w ++ e) (.slice a' (w.length + e.length) 0) := by
  have a2 := OG.beside a g.base g.next g.wf (OG.olds g)
  obtain ⟨a', HA, h1, h2⟩ := OG.pour a2.wf a2.own (own_bs g.own).src hl
  exact ⟨a', HA, h1, a2.trans h2⟩
def lets (k : Int) : List Nat := (parts k).data.toList.map UInt8.toNat
def encL (x : In) (c : Nat) : List Nat :=
  if c = 111 ∨ c = 112 then encU x.op.toNat else if c = 97 then encU x.a.toNat else if c = 98 then encU x.b.toNat else if c = 99 ∨ c = 114 then encU x.c.toNat else encU (zz x.k)
def posI (n : Int) : Prop := 0 ≤ n ∧ n ≤ 9223372036854775807
def okL (x : In) (c : Nat) : Prop :=
  ((c = 111 ∨ c = 112) ∧ posI x.op) ∨ (c = 97 ∧ posI x.a) ∨ (c = 98 ∧ posI x.b) ∨ ((c = 99 ∨ c = 114) ∧ posI x.c) ∨ ((c = 107 ∨ c = 116) ∧ okI x.k)
theorem encL_len {x : In} {c : Nat} (h : okL x c) : (encL x c).length ≤ 10 := by
  unfold encL
  rcases h with ⟨h, h1⟩ | ⟨h, h1⟩ | ⟨h, h1⟩ | ⟨h, h1⟩ | ⟨h, h1⟩
  · rw [if_pos h]; exact encU_len 9 _ (by unfold posI at h1; omega)
  · subst h; exact encU_len 9 _ (by unfold posI at h1; omega)
  · subst h; exact encU_len 9 _ (by unfold posI at h1; omega)
  · rw [if_neg (by omega), if_neg (by omega), if_neg (by omega), if_pos h]; exact encU_len 9 _ (by unfold posI at h1; omega)
  · rw [if_neg (by omega), if_neg (by omega), if_neg (by omega), if_neg (by omega)]
    have := zz_lt h1
    exact encU_len 9 _ (by omega)
theorem encIns_lets {x : In} (hv : valid x.kind = true) : encIns x = encU x.kind.toNat ++ (lets x.kind).flatMap (encL x) := by
  obtain ⟨k, op, a, b, c, kk⟩ := x
  simp only at hv ⊢
  unfold encIns
  simp only
  rw [List.append_assoc]
  congr 1
  rcases kinds hv with rfl | rfl | rfl | rfl | rfl | rfl | rfl | rfl | rfl | rfl | rfl | rfl | rfl <;>
    simp [encPs, pairs, encP, shp, none8, encL, show lets 1 = [] from rfl, show lets 2 = [97, 107] from rfl, show lets 3 = [97, 98] from rfl, show lets 4 = [112, 97, 98] from rfl, show lets 5 = [111, 97, 98, 99] from rfl,
      show lets 6 = [97, 98, 107] from rfl, show lets 7 = [97, 98, 107] from rfl, show lets 8 = [97, 114] from rfl, show lets 9 = [97] from rfl, show lets 10 = [116] from rfl, show lets 11 = [97, 116] from rfl, show lets 12 = [97, 116] from rfl, show lets 13 = [97] from rfl]
theorem okLs {x : In} {cells long : Int} (h : oneV x cells long = 0) (hk : okI x.k) : ∀ c ∈ lets x.kind, okL x c := by
  obtain ⟨hq, h1, h2⟩ := oks h
  have hv : valid x.kind = true := by simp [valid]; omega
  obtain ⟨k, op, a, b, c, kk⟩ := x
  simp only [pairs, List.mem_cons, List.mem_nil_iff, or_false, forall_eq_or_imp, forall_eq] at hq hk hv ⊢
  unfold okQ at hq
  simp only at hq
  rcases kinds hv with rfl | rfl | rfl | rfl | rfl | rfl | rfl | rfl | rfl | rfl | rfl | rfl | rfl <;>
    simp [shp, none8] at hq <;>
    simp [okL, posI, hk, hq, show lets 1 = [] from rfl, show lets 2 = [97, 107] from rfl, show lets 3 = [97, 98] from rfl, show lets 4 = [112, 97, 98] from rfl, show lets 5 = [111, 97, 98, 99] from rfl,
      show lets 6 = [97, 98, 107] from rfl, show lets 7 = [97, 98, 107] from rfl, show lets 8 = [97, 114] from rfl, show lets 9 = [97] from rfl, show lets 10 = [116] from rfl, show lets 11 = [97, 116] from rfl, show lets 12 = [97, 116] from rfl, show lets 13 = [97] from rfl]
def InvLt (G : Heap) (px : Nat) (x : In) (ps : ByteArray) (w : List Nat) (y0 v0 v9 : Value) (k : Nat) (t : Tm) (G1 : Heap) : Prop :=
  ∃ (i : Nat) (y : Value), i + k = ps.size ∧ t 0 = v0 ∧ t 9 = v9 ∧ t 10 = ptr px ∧ t 11 = .string ps ∧ t 12 = iv i ∧ t 8 = y ∧ OG G G1 y0 (w ++ ((ps.data.toList.map UInt8.toNat).take i).flatMap (encL x)) y
theorem lets_w {G : Heap} (hw : G.WF) {px : Nat} {x : In} {ps : ByteArray} {w : List Nat} {y0 v0 v9 : Value} (h0 : Own G 5 1 w.length (bc w) y0) (hp : px < G.next) (hpy : blkOf y0 ≠ some px) (lx : ∀ j, G.load ⟨px, j, none⟩ = (rowI x)[j]?)
    (hok : ∀ c ∈ ps.data.toList.map UInt8.toNat, okL x c) (hs : ps.size ≤ 100) (hl : w.length ≤ 10000000) {t : Tm} (t0 : t 0 = v0) (t9 : t 9 = v9) (t10 : t 10 = ptr px) (t11 : t 11 = .string ps) (t12 : t 12 = iv (0 : Nat)) (t8 : t 8 = y0) {Q : Post}
    (hQ : ∀ (t' : Tm) (G' : Heap) (y' : Value), t' 0 = v0 → t' 9 = v9 → t' 8 = y' → OG G G' y0 (w ++ (ps.data.toList.map UInt8.toNat).flatMap (encL x)) y' → Q (.exit 2) t' (rdy G')) : wpA Tryz.prog (.loop L41_1) Q t (rdy G) := by
  have hsz : ps.size = (ps.data.toList.map UInt8.toNat).length := by rw [List.length_map, Array.length_toList]; rfl
  have bound : ∀ i, (((ps.data.toList.map UInt8.toNat).take i).flatMap (encL x)).length ≤ 1000 := by
    intro i
    have gen : ∀ l : List Nat, (∀ c ∈ l, okL x c) → (l.flatMap (encL x)).length ≤ 10 * l.length := by
      intro l
      induction l with
      | nil => simp
      | cons a l ih =>
        intro h
        have := ih (fun c hc => h c (by simp [hc]))
        have := encL_len (h a (by simp))
        simp only [List.flatMap_cons, List.length_append, List.length_cons]; omega
    have := gen ((ps.data.toList.map UInt8.toNat).take i) (fun c hc => hok c (List.mem_of_mem_take hc))
    have h3 : ((ps.data.toList.map UInt8.toNat).take i).length ≤ 100 := by rw [List.length_take]; omega
    omega
  refine loop_at (InvLt G px x ps w y0 v0 v9) ps.size ?_ ?_
  · exact ⟨0, y0, by omega, t0, t9, t10, t11, t12, t8, by simpa using Og.refl hw h0⟩
  · rintro k t G1 ⟨i, y, hik, t0, t9, t10, t11, t12, t8, g⟩
    cases k with
    | zero =>
      have ei : i = ps.size := by omega
      subst ei
      rw [hsz, List.take_length] at g
      simp [L41_1, t11, t12]
      exact hQ _ G1 y (by simp [t0]) (by simp [t9]) (by simp [t8]) g
    | succ k =>
      have hi : i < ps.size := by omega
      have e3 : IntKind.i64.wrap ((i : Int) + 1) = ((i + 1 : Nat) : Int) := by rw [w64 _ (by omega)]; omega
      obtain ⟨i1, hi1⟩ : ∃ i1, i1 = i + 1 := ⟨_, rfl⟩
      rw [← hi1] at e3
      have hil : i < (ps.data.toList.map UInt8.toNat).length := by omega
      obtain ⟨c, hc⟩ : ∃ c : Nat, c = (ps.data.toList.map UInt8.toNat)[i] := ⟨_, rfl⟩
      have ix : sIdxStr (.string ps) (iv i) = some (.int .u8 (c : Int)) := by
        simp only [sIdxStr]
        rw [dif_pos ⟨by omega, by simpa using hi⟩, hc]
        simp
        rfl
      have hcl := hok c (by rw [hc]; exact List.getElem_mem hil)
      have en : w ++ ((ps.data.toList.map UInt8.toNat).take i1).flatMap (encL x) = (w ++ ((ps.data.toList.map UInt8.toNat).take i).flatMap (encL x)) ++ encL x c := by
        rw [hi1, List.take_succ_eq_append_getElem hil, List.flatMap_append, hc]; simp
      have hb := bound i
      obtain ⟨u, hu⟩ : ∃ u, u = w ++ ((ps.data.toList.map UInt8.toNat).take i).flatMap (encL x) := ⟨_, rfl⟩
      have hul : u.length ≤ 20000000 := by rw [hu, List.length_append]; omega
      rw [← hu] at g en
      have lx1 : ∀ j, G1.load ⟨px, j, none⟩ = (rowI x)[j]? := fun j => by rw [load_frame g.base (g.same px hp hpy)]; exact lx j
      simp only [rowI] at lx1
      have hel := encL_len hcl
      have num : ∀ n : Int, posI n → encL x c = encU n.toNat → ∃ v H' a HA, T Tryz.prog 80 [.int .u64 (IntKind.u64.wrap n)] G1 v H' ∧ sAppend H' 5 1 1 y v = some (.slice a (u.length + (encL x c).length) 0, HA) ∧ OG G HA y0 (u ++ encL x c) (.slice a (u.length + (encL x c).length) 0) := by
        intro n hn he
        unfold posI at hn
        have c1 : IntKind.u64.wrap n = ((n.toNat : Nat) : Int) := by rw [wu64 _ (by omega)]; omega
        obtain ⟨v, H', T1, g1⟩ := uintR_T g.wf (n := n.toNat) (by omega)
        obtain ⟨a, HA, ap, g2⟩ := OG.catX g g1 (by rw [he] at hel; omega)
        rw [c1, he]
        exact ⟨v, H', a, HA, T1, ap, g2⟩
      have fin : ∀ (t' : Tm) (HA : Heap) (a : Option Addr), t' 0 = v0 → t' 9 = v9 → t' 10 = ptr px → t' 11 = .string ps → t' 12 = iv i1 → t' 8 = .slice a (u.length + (encL x c).length) 0 → OG G HA y0 (u ++ encL x c) (.slice a (u.length + (encL x c).length) 0) →
          ∃ m, m < k + 1 ∧ InvLt G px x ps w y0 v0 v9 m t' HA := by
        intro t' HA a h0 h9 h10 h11 h12 h8 g'
        exact ⟨k, Nat.lt_succ_self k, i1, _, by omega, h0, h9, h10, h11, h12, h8, by rw [en]; exact g'⟩
      rcases hcl with ⟨h | h, h1⟩ | ⟨h, h1⟩ | ⟨h, h1⟩ | ⟨h | h, h1⟩ | ⟨h | h, h1⟩
      · obtain ⟨v, H', a, HA, T1, ap, g'⟩ := num x.op h1 (by unfold encL; rw [if_pos (.inl h)])
        rw [h] at ix
        simp [L41_1, t11, t12, hi, ix, t10, lx1]
        refine goT_of T1 ?_
        simp [t8, ap, t12, e3]
        exact fin _ HA a (by simp [t0]) (by simp [t9]) (by simp [t10]) (by simp [t11]) (by simp) (by simp) g'
      · obtain ⟨v, H', a, HA, T1, ap, g'⟩ := num x.op h1 (by unfold encL; rw [if_pos (.inr h)])
        rw [h] at ix
        simp [L41_1, t11, t12, hi, ix, t10, lx1]
        refine goT_of T1 ?_
        simp [t8, ap, t12, e3]
        exact fin _ HA a (by simp [t0]) (by simp [t9]) (by simp [t10]) (by simp [t11]) (by simp) (by simp) g'
      · obtain ⟨v, H', a, HA, T1, ap, g'⟩ := num x.a h1 (by unfold encL; rw [if_neg (by omega), if_pos h])
        rw [h] at ix
        simp [L41_1, t11, t12, hi, ix, t10, lx1]
        refine goT_of T1 ?_
        simp [t8, ap, t12, e3]
        exact fin _ HA a (by simp [t0]) (by simp [t9]) (by simp [t10]) (by simp [t11]) (by simp) (by simp) g'
      · obtain ⟨v, H', a, HA, T1, ap, g'⟩ := num x.b h1 (by unfold encL; rw [if_neg (by omega), if_neg (by omega), if_pos h])
        rw [h] at ix
        simp [L41_1, t11, t12, hi, ix, t10, lx1]
        refine goT_of T1 ?_
        simp [t8, ap, t12, e3]
        exact fin _ HA a (by simp [t0]) (by simp [t9]) (by simp [t10]) (by simp [t11]) (by simp) (by simp) g'
      · obtain ⟨v, H', a, HA, T1, ap, g'⟩ := num x.c h1 (by unfold encL; rw [if_neg (by omega), if_neg (by omega), if_neg (by omega), if_pos (.inl h)])
        rw [h] at ix
        simp [L41_1, t11, t12, hi, ix, t10, lx1]
        refine goT_of T1 ?_
        simp [t8, ap, t12, e3]
        exact fin _ HA a (by simp [t0]) (by simp [t9]) (by simp [t10]) (by simp [t11]) (by simp) (by simp) g'
      · obtain ⟨v, H', a, HA, T1, ap, g'⟩ := num x.c h1 (by unfold encL; rw [if_neg (by omega), if_neg (by omega), if_neg (by omega), if_pos (.inr h)])
        rw [h] at ix
        simp [L41_1, t11, t12, hi, ix, t10, lx1]
        refine goT_of T1 ?_
        simp [t8, ap, t12, e3]
        exact fin _ HA a (by simp [t0]) (by simp [t9]) (by simp [t10]) (by simp [t11]) (by simp) (by simp) g'
      · obtain ⟨v, H', T1, g1⟩ := intR_T g.wf h1
        have he : encL x c = encU (zz x.k) := by unfold encL; rw [if_neg (by omega), if_neg (by omega), if_neg (by omega), if_neg (by omega)]
        rw [← he] at g1
        obtain ⟨a, HA, ap, g'⟩ := OG.catX g g1 (by omega)
        rw [h] at ix
        simp [L41_1, t11, t12, hi, ix, t10, lx1]
        refine goT_of T1 ?_
        simp [t8, ap, t12, e3]
        exact fin _ HA a (by simp [t0]) (by simp [t9]) (by simp [t10]) (by simp [t11]) (by simp) (by simp) g'
      · obtain ⟨v, H', T1, g1⟩ := intR_T g.wf h1
        have he : encL x c = encU (zz x.k) := by unfold encL; rw [if_neg (by omega), if_neg (by omega), if_neg (by omega), if_neg (by omega)]
        rw [← he] at g1
        obtain ⟨a, HA, ap, g'⟩ := OG.catX g g1 (by omega)
        rw [h] at ix
        simp [L41_1, t11, t12, hi, ix, t10, lx1]
        refine goT_of T1 ?_
        simp [t8, ap, t12, e3]
        exact fin _ HA a (by simp [t0]) (by simp [t9]) (by simp [t10]) (by simp [t11]) (by simp) (by simp) g'
theorem parts_sz2 (k : Int) : (parts k).size ≤ 100 := by
  cases hv : valid k with
  | false => unfold parts; rw [hv, if_neg (by simp)]; decide
  | true => rcases kinds hv with h | h | h | h | h | h | h | h | h | h | h | h | h <;> rw [h] <;> decide
def InvRe (H : Heap) (xl : Value) (l : List In) (k : Nat) (t : Tm) (H1 : Heap) : Prop :=
  ∃ (i : Nat) (y : Value), i + k = l.length ∧ t 0 = xl ∧ t 8 = y ∧ t 9 = iv i ∧ OG H H1 (.slice none 0 0) (encU l.length ++ encAll (l.take i)) y
theorem encodeR_T {H : Heap} (hw : H.WF) {xl : Value} {l : List In} (hx : Rws H 6 xl (l.map rowI)) (hkk : ∀ a ∈ l, okI a.kind) (hk : ∀ a ∈ l, okI a.k) (cells : Int) :
    ∃ v H', T Tryz.prog 41 [xl, iv cells] H v H' ∧ ∃ y, v = .tuple #[y, iv (checkV l cells).2] ∧ OG H H' (.slice none 0 0) (encS l cells) y := by
  refine T_by hm light41 ?_
  obtain ⟨xa, xc, hxl⟩ := hx.len
  rw [List.length_map] at hxl
  obtain ⟨v1, H1, T1, rfl, s1⟩ := checkR_T hw hx hkk cells
  have w1 := T1.grow.wf hw
  have n1 := T1.grow.next
  have o1 : ∀ b, b < H.next → H1.blk b = H.blk b := fun b hb => s1 b hb (by simp)
  obtain ⟨e, he⟩ : ∃ e, e = (checkV l cells).2 := ⟨_, rfl⟩
  obtain ⟨w, hwc⟩ : ∃ w, w = (checkV l cells).1 := ⟨_, rfl⟩
  have hpair : checkV l cells = (w, e) := by rw [he, hwc]
  rw [hpair] at T1
  rw [← he]
  unfold encS
  rw [← he]
  rw [hxl] at T1 ⊢
  by_cases h0 : e = 0
  case neg =>
    have h0' : (e != 0) = true := by simp [h0]
    rw [if_neg h0]
    simp [L41]
    refine goT_of T1 ?_
    simp [h0', packV]
    exact ⟨T1.1, n1, w1, by simpa [bc] using Own.nil H1 5 1, fun b hb _ => o1 b hb, fun b hb => by cases hb⟩
  rw [if_pos h0]
  rw [he] at h0
  obtain ⟨hok, hlp, hlm⟩ := check_ok h0
  rw [← he] at h0
  have h0' : (e != 0) = false := by simp [h0]
  have c1 : IntKind.u64.wrap (l.length : Int) = (l.length : Int) := wu64 _ (by omega)
  obtain ⟨v2, H2, T2, g2⟩ := uintR_T w1 (n := l.length) (by omega)
  have g2' : OG H H2 (.slice none 0 0) (encU l.length) v2 := ⟨g2.base.trans T1.1, Nat.le_trans n1 g2.next, g2.wf, g2.own, fun b hb h => (g2.same b (by omega) h).trans (o1 b hb), fun b hb => by
    rcases g2.old b hb with h | h
    · exact .inl h
    · exact .inr (by omega)⟩
  simp [L41]
  refine goT_of T1 ?_
  simp [h0', c1]
  refine goT_of T2 ?_
  simp
  rw [← hxl]
  refine loop_at (InvRe H xl l) l.length ?_ ?_
  · exact ⟨0, v2, by omega, by simp [hxl], by simp, by simp, by simpa [encAll] using g2'⟩
  · rintro k t G ⟨i, y, hik, t0, t8, t9, g⟩
    have oG := OG.olds g
    have hlen : ∀ i, (encAll (l.take i)).length ≤ 60 * 600 := by
      intro i
      have := encAll_len (l := l.take i) (cells := cells) (long := l.length) (fun x hx => ⟨hok x (List.mem_of_mem_take hx), hk x (List.mem_of_mem_take hx)⟩)
      have h3 : (l.take i).length ≤ 600 := by simp; omega
      exact Nat.le_trans this (Nat.mul_le_mul_left _ h3)
    have hul := encU_len 9 l.length (by omega)
    cases k with
    | zero =>
      have ei : i = l.length := by omega
      subst ei
      rw [List.take_length] at g
      have hev : encV l = encU l.length ++ encAll l := rfl
      rw [hev]
      obtain ⟨ya, hya⟩ := g.own.len
      rw [hxl] at t0
      obtain ⟨bb, hbb⟩ : ∃ bb, bb = encU l.length ++ encAll l := ⟨_, rfl⟩
      rw [← hbb] at g hya ⊢
      subst hya
      simp [L41_2, t0, t8, t9, packV, h0]
      exact g
    | succ k =>
      have hi : i < l.length := by omega
      obtain ⟨b, off, c, hxs, hrl, ld, _⟩ := (hx.keep hw g.base oG).at (i := i) (by simpa using hi)
      simp only [List.getElem_map, List.length_map] at hxs hrl ld
      have e3 : IntKind.i64.wrap ((i : Int) + 1) = ((i + 1 : Nat) : Int) := by rw [w64 _ (by omega)]; omega
      obtain ⟨i1, hi1⟩ : ∃ i1, i1 = i + 1 := ⟨_, rfl⟩
      rw [← hi1] at e3
      obtain ⟨q, hq⟩ : ∃ q, q = l[i] := ⟨_, rfl⟩
      have hmem : q ∈ l := by rw [hq]; exact List.getElem_mem hi
      have hqo := hok q hmem
      have hqk := hk q hmem
      rw [← hq] at ld
      obtain ⟨okp, k1, k2⟩ := oks hqo
      have hval : valid q.kind = true := by simp [valid]; omega
      have en : encAll (l.take i1) = encAll (l.take i) ++ encIns q := by rw [hi1, List.take_succ_eq_append_getElem hi, encAll_append, hq]; simp [encAll]
      have hli := hlen i
      obtain ⟨u, hu⟩ : ∃ u, u = encU l.length ++ encAll (l.take i) := ⟨_, rfl⟩
      have hul2 : u.length ≤ 100000 := by rw [hu, List.length_append]; omega
      rw [← hu] at g
      have stx := new_storeA g.wf 113 6 [.int .i64 0, .int .i64 0, .int .i64 0, .int .i64 0, .int .i64 0, .int .i64 0] (rowI q) rfl rfl (by decide)
      have lx4 := new_load g.wf 113 6 (rowI q)
      obtain ⟨H4, hH4⟩ : ∃ H4, H4 = G.new 113 6 (rowI q) := ⟨_, rfl⟩
      have w4 : H4.WF := by rw [hH4]; exact WF_new g.wf _ _ _
      have n4 : H4.next = G.next + 1 := by rw [hH4]; rfl
      have g4 : OG H H4 (.slice none 0 0) u y := OG.beside g (by rw [hH4]; rfl) (by omega) w4 (fun b hb => by rw [hH4]; simp [show b ≠ G.next by omega])
      rw [← hH4] at stx lx4
      have ylt : ∀ b, blkOf y = some b → b < G.next := fun b hb => g.own.lt g.wf hb
      have ck : IntKind.u64.wrap q.kind = ((q.kind.toNat : Nat) : Int) := by rw [wu64 _ (by omega)]; omega
      obtain ⟨v5, H5, T5, g5⟩ := uintR_T w4 (n := q.kind.toNat) (by omega)
      have hel := encU_len 9 q.kind.toNat (by omega)
      have own4 : OG H4 H4 y u y := Og.refl w4 g4.own
      obtain ⟨a6, H6, ap6, g6⟩ := OG.catX own4 g5 (by omega)
      obtain ⟨kn, hkn⟩ : ∃ kn, kn = q.kind.toNat := ⟨_, rfl⟩
      rw [← hkn] at ck T5 g5 ap6 g6 hel
      obtain ⟨y6, hy6⟩ : ∃ y6, y6 = Value.slice a6 (u.length + (encU kn).length) 0 := ⟨_, rfl⟩
      rw [← hy6] at ap6 g6
      have lx6 : ∀ j, H6.load ⟨G.next, j, none⟩ = (rowI q)[j]? := fun j => by
        rw [load_frame g6.base (g6.same _ (by omega) (fun e => by have := ylt _ e; omega))]; exact lx4 j
      obtain ⟨v7, H7, T7, rfl, s7⟩ := parts_T g6.wf q.kind (hkk q hmem)
      have w7 := T7.grow.wf g6.wf
      have n7 := T7.grow.next
      have k7 : ∀ b, b < H6.next → H7.blk b = H6.blk b := fun b hb => s7 b hb (by simp)
      have g7 := OG.beside g6 T7.1 n7 w7 k7
      have n6 := g6.next
      have lx7 : ∀ j, H7.load ⟨G.next, j, none⟩ = (rowI q)[j]? := fun j => by rw [load_frame T7.1 (k7 _ (by omega))]; exact lx6 j
      have y6ne : blkOf y6 ≠ some G.next := fun e => by
        rcases g6.old _ e with h | h
        · have := ylt _ h; omega
        · omega
      have lk4 : H4.load ⟨G.next, 0, none⟩ = some (iv q.kind) := lx4 0
      have lk6 : H6.load ⟨G.next, 0, none⟩ = some (iv q.kind) := lx6 0
      obtain ⟨ps, hps⟩ : ∃ ps, ps = parts q.kind := ⟨_, rfl⟩
      have hpm : ps.data.toList.map UInt8.toNat = lets q.kind := by rw [hps]; rfl
      have hpsz : ps.size ≤ 100 := by rw [hps]; exact parts_sz2 _
      rw [← hps] at T7
      rw [hxs] at t0
      simp [L41_2, t0, t9, hi, ld, stx, lk4, ck]
      refine goT_of T5 ?_
      simp [t8, ap6, lk6]
      refine goT_of T7 ?_
      simp
      have hfl : encIns q = encU kn ++ (lets q.kind).flatMap (encL q) := by rw [hkn]; exact encIns_lets hval
      refine lets_w (px := G.next) (x := q) (ps := ps) (w := u ++ encU kn) (y0 := y6) (v0 := xl) (v9 := iv i) w7 g7.own (by omega) y6ne lx7 (by rw [hpm]; exact okLs hqo hqk) hpsz (by rw [List.length_append]; omega)
        (by simp [t0, hxs]) (by simp [t9]) (by simp) (by simp) (by simp) (by simp [hy6]) (fun t' G' y' h0' h9' h8' g8 => ?_)
      simp [h9', e3]
      refine ⟨k, Nat.lt_succ_self k, i1, y', by omega, by simp [h0'], by simp [h8'], by simp, ?_⟩
      rw [hpm] at g8
      rw [en, ← List.append_assoc, ← hu, hfl, ← List.append_assoc]
      exact g4.trans (g7.trans g8)
end Go.Proofs.YtnomffikflfilaaGreat.E8
namespace Go.Proofs.YtnomffikflfilaaGreat.E8
open Go.Ot
set_option linter.unusedSimpArgs false
set_option linter.unusedVariables false
set_option maxRecDepth 100000
def InvS2 (H : Heap) (x : Value) (l : List Nat) (k : Nat) (t : Tm) (H1 : Heap) : Prop :=
  ∃ i a, i + k = l.length ∧ t 3 = .int .u64 ((a : Nat) : Int) ∧ a < 18446744073709551616 ∧ (l.drop i).foldl fnv1 a = fnv l ∧ t 0 = x ∧ t 4 = .int .i64 (i : Nat) ∧ H1 = H
theorem sumR_T {H : Heap} {x : Value} {l : List Nat} (h : Bs H x l) (hb : ∀ b ∈ l, b < 256) (hl : l.length ≤ 140737488355328) : T Tryz.prog 61 [x] H (.int .u64 ((fnv l : Nat) : Int)) H := by
  refine T_eq hm light61 ?_
  obtain ⟨xa, xc, hxl⟩ := h.len
  simp [L61]
  refine loop_at (InvS2 H x l) l.length ?_ ?_
  · exact ⟨0, 14695981039346656037, by omega, by simp, by decide, by simp [fnv], by simp, by simp, rfl⟩
  · rintro k t H1 ⟨i, a, hik, t3, ha, hf, t0, t4, rfl⟩
    cases k with
    | zero =>
      have e0 : i = l.length := by omega
      subst e0
      rw [hxl] at t0
      simp at hf
      simp [L61_1, t3, t0, t4, hf]
    | succ k =>
      have hi : i < l.length := by omega
      have hi' : (i : Int) < l.length := by omega
      obtain ⟨b, off, c, hx, hld⟩ := h.at hi
      rw [hx] at t0
      have hlt := hb _ (List.getElem_mem hi)
      obtain ⟨s1, s2⟩ := fnv_step a l[i] ha hlt
      have e1 : IntKind.u64.wrap ((l[i] : Nat) : Int) = ((l[i] : Nat) : Int) := wu64 _ (by omega)
      have e2 : IntKind.i64.wrap ((i : Int) + 1) = ((i + 1 : Nat) : Int) := by rw [w64 _ (by omega)]; omega
      simp [L61_1, t3, t0, t4, hi', hld, e1, s1, s2, e2]
      refine ⟨k, Nat.lt_succ_self k, i + 1, fnv1 a l[i], by omega, by simp, fnv1_lt _ _, ?_, by simp [t0, hx], by simp, rfl⟩
      rw [← hf, List.drop_eq_getElem_cons hi]
      rfl
def InvM (H : Heap) (all : List Nat) (kk : Nat) (k : Nat) (t : Tm) (H1 : Heap) : Prop :=
  ∃ (w : List Nat) (m i : Nat) (x' : Value), i + k = kk ∧ t 5 = x' ∧ m < 18446744073709551616 ∧ t 0 = .int .u64 (m : Int) ∧ t 1 = .int .i64 kk ∧ t 6 = .int .i64 (i : Nat) ∧ w ++ low m k = all ∧ w.length ≤ all.length ∧ OG H H1 (.slice none 0 0) w x'
theorem lowR_T {H : Heap} (hw : H.WF) (n k : Nat) (hn : n < 18446744073709551616) (hl : k < 140737488355328) :
    ∃ v H', T Tryz.prog 60 [.int .u64 (n : Int), .int .i64 (k : Int)] H v H' ∧ OG H H' (.slice none 0 0) (low n k) v := by
  refine T_by hm light60 ?_
  have hall : (low n k).length < 140737488355328 := by rw [low_len]; exact hl
  simp [L60]
  refine loop_at (InvM H (low n k) k) k ?_ ?_
  · exact ⟨[], n, 0, _, by omega, by simp, hn, by simp, by simp, by simp, rfl, by simp, Og.refl hw (nil_own H)⟩
  · rintro j t H1 ⟨w, m, i, x', hik, t5, hm64, t0, t1, t6, hall2, hwl, ha⟩
    cases j with
    | zero =>
      have e0 : i = k := by omega
      subst e0
      simp [low] at hall2
      rw [← hall2]
      simp [L60_1, t0, t1, t5, t6]
      obtain ⟨a, ha'⟩ := ha.own.len
      rw [ha'] at ha ⊢
      simp
      exact ha
    | succ j =>
      obtain ⟨HA, hap, ha2⟩ := OG.push ha.wf ha.own (m % 256) (by omega)
      obtain ⟨c, hc⟩ : ∃ c, c = m % 256 := ⟨_, rfl⟩
      obtain ⟨q, hq⟩ : ∃ q, q = m / 256 := ⟨_, rfl⟩
      rw [← hc] at hap ha2
      have e1 : (i : Int) < k := by omega
      have e2 : IntKind.u8.wrap (c : Int) = (c : Int) := wu8 _ (by omega)
      have e5 : sBin .rem (.int .u64 (m : Int)) (.int .u64 256) = some (.int .u64 (c : Int)) := by
        rw [hc]; exact rem_nat .u64 m 256 (by decide)
      have e3 : sBin .quo (.int .u64 (m : Int)) (.int .u64 256) = some (.int .u64 (q : Int)) := by
        rw [hq]; exact quo_u64 m 256 (by decide) hm64
      have e4 : IntKind.i64.wrap ((i : Int) + 1) = ((i + 1 : Nat) : Int) := by rw [w64 _ (by omega)]; omega
      simp [L60_1, t0, t1, t5, t6, e1, e2, e3, e4, e5, zerosA, hap]
      simp only [low, ← hc, ← hq] at hall2
      refine ⟨j, Nat.lt_succ_self j, w ++ [c], q, i + 1, _, by omega, by simp, by omega, by simp, by simp [t1], by simp, by simpa using hall2, ?_, ha.trans ha2⟩
      rw [← hall2]; simp
end Go.Proofs.YtnomffikflfilaaGreat.E8
namespace Go.Proofs.YtnomffikflfilaaGreat.E8
open Go.Ot
set_option linter.unusedSimpArgs false
set_option linter.unusedVariables false
set_option maxRecDepth 100000
theorem sealR_big {H : Heap} {x : Value} {l : List Nat} (h : Bs H x l) (hl : 1048576 < l.length) : T Tryz.prog 18 [x] H (.tuple #[.slice none 0 0, .int .i64 23]) H := by
  refine T_eq hm light18 ?_
  obtain ⟨xa, xc, rfl⟩ := h.len
  have e : (1048576 : Int) < l.length := by omega
  simp [L18, e]
theorem sealR_T {H : Heap} (hw : H.WF) {x : Value} {l : List Nat} (h : Bs H x l) (hb : ∀ b ∈ l, b < 256) (hl : l.length ≤ 1048576) :
    ∃ v H', T Tryz.prog 18 [x] H v H' ∧ ∃ y, v = .tuple #[y, .int .i64 0] ∧ OG H H' (.slice none 0 0) (sealB l) y := by
  refine T_by hm light18 ?_
  obtain ⟨xa, xc, hxl⟩ := h.len
  have e : ¬ (1048576 : Int) < l.length := by omega
  have e1 : IntKind.u64.wrap (l.length : Int) = (l.length : Int) := wu64 _ (by omega)
  have hnB := hw.next_ge
  obtain ⟨HN, hHN⟩ : ∃ HN, HN = H.new 5 1 [.int .u8 111, .int .u8 117, .int .u8 116, .int .u8 114] := ⟨_, rfl⟩
  have a2 : OG H HN (.slice none 0 0) mk4 (sl H.next 4) := by
    rw [hHN]
    refine ⟨rfl, by simp, WF_new hw _ _ _, Own.mk (by simp [bc, mk4]) hnB (by simp [bc, mk4]), ?_, ?_⟩
    · intro b hb _
      have m1 : b ≠ H.next := by omega
      simp [m1]
    · intro b hb; simp at hb; omega
  have hmark : sMark HN (sl H.next 4) = some (sl H.next 4) := by
    have : ¬ H.next < HN.B := by rw [hHN]; exact hnB
    simp [sMark, hHN, hnB]
  have h2 := h.keep hw a2.base a2.olds
  obtain ⟨v3, H3, T3, a3⟩ := lowR_T a2.wf l.length 4 (by omega) (by omega)
  have a3' : OG H H3 (.slice none 0 0) mk4 (sl H.next 4) := a2.beside a3.base a3.next a3.wf a3.olds
  obtain ⟨y4, H4, hap4, a4⟩ := OG.pour a3.wf a3'.own (own_bs a3.own).src (by simp [mk4, low_len])
  have a4' := Og.trans a3' a4
  have h4 := h.keep hw a4'.base (OG.olds a4')
  have T5 := sumR_T h4 hb (by omega)
  obtain ⟨v6, H6, T6, a6⟩ := lowR_T a4'.wf (fnv l) 8 (fnv_lt l) (by omega)
  have a6' : OG H H6 (.slice none 0 0) (mk4 ++ low l.length 4) (.slice y4 (mk4.length + (low l.length 4).length) 0) := OG.beside a4' a6.base a6.next a6.wf a6.olds
  obtain ⟨y7, H7, hap7, a7⟩ := OG.pour a6.wf a6'.own (own_bs a6.own).src (by simp [mk4, low_len])
  have a7' := Og.trans a6' a7
  have h7 := h.keep hw a7'.base (OG.olds a7')
  obtain ⟨y8, H8, hap8, a8⟩ := OG.pour a7'.wf a7'.own h7.src (by simp [mk4, low_len]; omega)
  have a8' := Og.trans a7' a8
  rw [hxl] at T5 hap8
  rw [hxl]
  simp [L18, e, e1, zerosA_one, List.replicate]
  rw [← hHN]
  simp [hmark]
  refine goT_of T3 ?_
  have m4 : mk4.length = 4 := rfl
  have e9 : (mk4 ++ low l.length 4 ++ low (fnv l) 8).length + l.length = 16 + l.length := by simp [mk4, low_len]
  rw [e9] at a8'
  simp only [low_len, List.length_append, m4, Nat.reduceAdd] at hap4 hap7 hap8
  simp [hap4]
  refine goT_of T5 ?_
  simp
  refine goT_of T6 ?_
  simp [hap7, hap8]
  exact a8'
end Go.Proofs.YtnomffikflfilaaGreat.E8
