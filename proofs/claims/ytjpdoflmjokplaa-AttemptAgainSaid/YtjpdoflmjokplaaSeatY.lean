/-
  Chapter 22: the document's Onto of reductions. Chapter 22: the document's sums of what went into reductions. Chapter 22: the document's Onto. Chapter 22: what goes into reductions one by one is what the document sums up.
-/
import Derived.Test.YtjpdoflmjokplaaSeatW
namespace Go.Proofs.Ytjpdoflmjokplaa
open Go.Ot Go.RowKit
set_option linter.unusedSimpArgs false
set_option linter.unusedVariables false
theorem Row.onN {H H1 : Heap} {ety sz n : Nat} {cells : List Value} {y : Value} (h : Row H H1 ety sz n cells y) (ty s : Nat) (cs : List Value) : Row H (H1.new ty s cs) ety sz n cells y :=
  ⟨h.own.new h.wf _ _ _, WF_new h.wf _ _ _, by simp [h.base], by have := h.next; simp; omega, h.new, fun b hb => by
    have h1 := h.next
    have : b ≠ H1.next := by omega
    simp [this, h.keep b hb]⟩
theorem Row.push {H H1 : Heap} {ety sz n : Nat} {cells : List Value} {y : Value} (h : Row H H1 ety sz n cells y) (row : List Value) (hr : row.length = sz) (h0 : 0 < sz) (bytes : Nat) (hb : (n + 1) * bytes ≤ 140737488355328) :
    ∃ HA, sAppend (H1.new ety sz row) ety sz bytes y (.slice (some ⟨H1.next, 0, none⟩) 1 0) = some (.slice (some ⟨H1.next + 1, 0, none⟩) (n + 1) 0, HA) ∧ Row H HA ety sz (n + 1) (cells ++ row) (.slice (some ⟨H1.next + 1, 0, none⟩) (n + 1) 0) := by
  have h2 := h.onN ety sz row
  have hn1 := h.wf.next_ge
  have src : srcCells (H1.new ety sz row) sz (.slice (some ⟨H1.next, 0, none⟩) 1 0) = some (1, row) := by
    rw [src_at (ety := ety) (cs := row) (by simpa using hn1) (by simp) (by simp [hr])]
    simp [← hr]
  refine ⟨_, append_any h2.own src (by decide) hb, ?_⟩
  have hnx := h.next
  refine ⟨?_, WF_new (WF_drop h2.wf _) _ _ _, by simp [h.base], by simp; omega, fun b hb => ?_, fun b hb => ?_⟩
  · exact Own.mk (by have := h.own.1; simp [this, hr, Nat.add_mul]) (by simp; omega) (by simp)
  · simp at hb; omega
  · have m1 : b ≠ H1.next + 1 := by omega
    have m2 : b ≠ H1.next := by omega
    have m3 : blkOf y ≠ some b := fun hy => by have := h.new b hy; omega
    simp [m1, m2, blk_drop, m3, h.keep b hb]
theorem joinK {H : Heap} (hw : H.WF) (op a b : Int) (ha : okI a) (hb : okI b) : T Try.prog 57 [iv op, iv a, iv b] H (iv (joinV op a b)) H := by
  obtain ⟨v, H', hT, rfl, hs⟩ := joinR_T hw op a b ha hb
  exact T_forget hT (fun b hb => hs b hb (by simp)) rfl
theorem foldK {H : Heap} (hw : H.WF) (op : Int) {x : Value} {l : List Int} (hx : Ints H .i64 x l) (hn : ∀ n ∈ l, okI n) (hl : l.length ≤ 1000000) : T Try.prog 58 [iv op, x] H (iv (foldV op l)) H := by
  obtain ⟨v, H', hT, rfl, hs⟩ := foldR_T hw op hx hn hl
  exact T_forget hT (fun b hb => hs b hb (by simp)) rfl
def InvOn (H : Heap) (xd xa xn : Value) (rd : List (Int × Int)) (ahead now : List Int) (k : Nat) (t : Tm) (H1 : Heap) : Prop :=
  ∃ i y, i + k = rd.length ∧ t 0 = xd ∧ t 1 = xa ∧ t 2 = xn ∧ t 7 = y ∧ t 8 = iv i ∧ Row H H1 2 1 i (ci (ontoN (rd.map (·.1)) ahead now i)) y
theorem refOnto_T {H : Heap} (hw : H.WF) {xd xa xn : Value} {rd : List (Int × Int)} {ahead now : List Int} (hd : Twos H xd rd) (ha : Ints H .i64 xa ahead) (hn : Ints H .i64 xn now) (la : ahead.length = rd.length) (ln : now.length = rd.length) (oka : ∀ n ∈ ahead, okI n) (okn : ∀ n ∈ now, okI n) (hl : rd.length ≤ 1000) :
    ∃ o H', T Try.prog 54 [xd, xa, xn] H o H' ∧ Row H H' 2 1 rd.length (ci (ontoN (rd.map (·.1)) ahead now rd.length)) o := by
  refine T_by hm light54 ?_
  obtain ⟨ad, cd, hxd⟩ := hd.len
  simp [L54]
  refine loop_at (InvOn H xd xa xn rd ahead now) rd.length ?_ ?_
  · exact ⟨0, .slice none 0 0, by omega, by simp, by simp, by simp, by simp, by simp, by simpa [ontoN, ci] using Row.nil hw 2 1⟩
  · rintro k t H1 ⟨i, y, hik, t0, t1, t2, t7, t8, row⟩
    cases k with
    | zero =>
      have e1 : ¬ ((i : Int) < rd.length) := by omega
      have e2 : i = rd.length := by omega
      subst e2
      obtain ⟨a2, hy⟩ := row.own.len
      rw [hxd] at t0
      have row' := row
      rw [hy] at t7 row'
      simp [L54_1, t8, t0, e1, t7]
      exact row'
    | succ k =>
      have hil : i < rd.length := by omega
      have e1 : ((i : Int) < rd.length) := by omega
      have e4 : IntKind.i64.wrap ((i : Int) + 1) = ((i + 1 : Nat) : Int) := by rw [w64 _ (by omega)]; omega
      obtain ⟨b, off, c, hdb, l0, _⟩ := (hd.keep hw row.base row.keep).at hil
      obtain ⟨b2, off2, c2, hab, l1⟩ := (ha.keep hw row.base row.keep).at (i := i) (by omega)
      obtain ⟨b3, off3, c3, hnb, l2⟩ := (hn.keep hw row.base row.keep).at (i := i) (by omega)
      have hT := joinK row.wf rd[i].1 (ahead[i]'(by omega)) (now[i]'(by omega)) (oka _ (List.getElem_mem _)) (okn _ (List.getElem_mem _))
      obtain ⟨w, hw'⟩ : ∃ w, w = joinV rd[i].1 (ahead[i]'(by omega)) (now[i]'(by omega)) := ⟨_, rfl⟩
      rw [← hw'] at hT
      obtain ⟨HA, ap, row2⟩ := row.push [iv w] rfl (by decide) 8 (by omega)
      have hon : ci (ontoN (rd.map (·.1)) ahead now (i + 1)) = ci (ontoN (rd.map (·.1)) ahead now i) ++ [iv w] := by
        rw [ontoN_succ, ci_append, hw']
        have ia : i < ahead.length := by omega
        have inn : i < now.length := by omega
        simp [ci, List.getD, hil, ia, inn]
      have hz : zerosA [iv 0] 1 = [iv 0] := rfl
      rw [← hon] at row2
      obtain ⟨iN, hiN⟩ : ∃ n : Nat, n = i + 1 := ⟨_, rfl⟩
      rw [← hiN] at e4 row2 ap
      have t0' := t0
      have t1' := t1
      have t2' := t2
      rw [hdb] at t0
      rw [hab] at t1
      rw [hnb] at t2
      have il : i < ahead.length := by omega
      have in2 : i < now.length := by omega
      simp [L54_1, t8, t0, e1, hil, l0, t1, il, l1, t2, in2, l2]
      refine goT_of hT ?_
      simp [hz, t7, ap, t8, e4]
      exact ⟨k, by omega, iN, _, by omega, by simp [t0'], by simp [t1'], by simp [t2'], by simp, by simp, row2⟩
end Go.Proofs.Ytjpdoflmjokplaa
namespace Go.Proofs.Ytjpdoflmjokplaa
open Go.Ot Go.RowKit
set_option linter.unusedSimpArgs false
set_option linter.unusedVariables false
/-- What went into a cell, in order. -/
def ofC (is : List (Int × Int)) (c : Int) : List Int := (is.filter fun e => e.1 == c).map Prod.snd
def inN (ops : List Int) (is : List (Int × Int)) (n : Nat) : List Int := (List.range n).map fun (i : Nat) => foldV (ops.getD i 0) (ofC is i)
theorem inN_succ (ops : List Int) (is : List (Int × Int)) (n : Nat) : inN ops is (n + 1) = inN ops is n ++ [foldV (ops.getD n 0) (ofC is n)] := by simp [inN, List.range_succ]
theorem ofC_take (is : List (Int × Int)) (c : Int) (i : Nat) (h : i < is.length) : ofC (is.take (i + 1)) c = ofC (is.take i) c ++ (if is[i].1 = c then [is[i].2] else []) := by
  unfold ofC
  rw [List.take_add_one, List.getElem?_eq_getElem h, List.filter_append, List.map_append]
  by_cases hw : is[i].1 = c <;> simp [hw]
theorem ofC_len (is : List (Int × Int)) (c : Int) : (ofC is c).length ≤ is.length := by
  unfold ofC
  rw [List.length_map]
  exact List.length_filter_le _ _
def InvI1 (H : Heap) (xd xi : Value) (is : List (Int × Int)) (c : Int) (t0 : Tm) (k : Nat) (t : Tm) (H1 : Heap) : Prop :=
  ∃ i y, i + k = is.length ∧ t 0 = t0 0 ∧ t 1 = xi ∧ t 5 = t0 5 ∧ t 6 = iv c ∧ t 7 = y ∧ t 8 = iv i ∧ Row H H1 2 1 (ofC (is.take i) c).length (ci (ofC (is.take i) c)) y
theorem cells_loop {H : Heap} (hw : H.WF) {xd xi : Value} {is : List (Int × Int)} (hx : Rws H 2 xi (is.map row2)) (hl : is.length ≤ 1000) (c : Int) {Q : Exit → Tm → Heap → Prop} {t : Tm} (t1 : t 1 = xi) (t6 : t 6 = iv c) (t7 : t 7 = .slice none 0 0) (t8 : t 8 = iv 0)
    (hQ : ∀ t9 H9 y9, t9 0 = t 0 → t9 1 = xi → t9 5 = t 5 → t9 6 = iv c → t9 7 = y9 → Row H H9 2 1 (ofC is c).length (ci (ofC is c)) y9 → Q (.exit 2) t9 (rdy H9)) : wpA Try.prog (.loop L55_1) Q t (rdy H) := by
  refine loop_at (InvI1 H xd xi is c t) is.length ?_ ?_
  · exact ⟨0, .slice none 0 0, by omega, rfl, t1, rfl, t6, t7, t8, by simpa [ofC, ci] using Row.nil hw 2 1⟩
  · rintro k tt H1 ⟨i, y, hik, u0, u1, u5, u6, u7, u8, row⟩
    obtain ⟨ax, cx, hxl⟩ := hx.len
    rw [List.length_map] at hxl
    cases k with
    | zero =>
      have e1 : ¬ ((i : Int) < is.length) := by omega
      have e2 : i = is.length := by omega
      rw [e2, List.take_length] at row
      have hq := fun (t9 : Tm) (h0 : t9 0 = tt 0) (h1 : t9 1 = tt 1) (h5 : t9 5 = tt 5) (h6 : t9 6 = tt 6) (h7 : t9 7 = tt 7) => hQ t9 H1 y (h0.trans u0) (h1.trans u1) (h5.trans u5) (h6.trans u6) (h7.trans u7) row
      rw [hxl] at u1
      simp [L55_1, u8, u1, e1]
      exact hq _ (by simp) (by simp) (by simp) (by simp) (by simp)
    | succ k =>
      have hil : i < is.length := by omega
      have e1 : ((i : Int) < is.length) := by omega
      have e4 : IntKind.i64.wrap ((i : Int) + 1) = ((i + 1 : Nat) : Int) := by rw [w64 _ (by omega)]; omega
      obtain ⟨b, off, c2, hxb, _, _, hld⟩ := (hx.keep hw row.base row.keep).at (i := i) (by simpa using hil)
      rw [List.length_map] at hxb
      have l0 : H1.load ⟨b, off + i * 2, none⟩ = some (iv is[i].1) := by
        have := hld 0 (by simp [row2])
        simpa [row2] using this
      have l1 : H1.load ⟨b, off + i * 2 + 1, none⟩ = some (iv is[i].2) := by
        have := hld 1 (by simp [row2])
        simpa [row2] using this
      have hot := ofC_take is c i hil
      have hol := ofC_len (is.take i) c
      have hol2 : (is.take i).length ≤ i := by simp; omega
      obtain ⟨iN, hiN⟩ : ∃ n : Nat, n = i + 1 := ⟨_, rfl⟩
      rw [← hiN] at e4 hot
      have u1' := u1
      rw [hxb] at u1
      have hz : zerosA [iv 0] 1 = [iv 0] := rfl
      by_cases h : is[i].1 = c
      · have hb : (is[i].1 == c) = true := by simpa using h
        rw [if_pos h] at hot
        obtain ⟨HA, ap, row2⟩ := row.push [iv is[i].2] rfl (by decide) 8 (by omega)
        simp [L55_1, u8, u1, e1, hil, l0, u6, hb, l1, hz, u7, ap, e4]
        refine ⟨k, by omega, iN, _, by omega, by simp [u0], by simp [u1'], by simp [u5], by simp [u6], by simp; rfl, by simp, ?_⟩
        rw [hot, ci_append]
        have q1 : (ofC (is.take i) c ++ [is[i].2]).length = (ofC (is.take i) c).length + 1 := by simp
        rw [q1]
        exact row2
      · have hb : (is[i].1 == c) = false := by simpa using h
        rw [if_neg h, List.append_nil] at hot
        simp [L55_1, u8, u1, e1, hil, l0, u6, hb, e4]
        exact ⟨k, by omega, iN, y, by omega, by simp [u0], by simp [u1'], by simp [u5], by simp [u6], by simp [u7], by simp, by rw [hot]; exact row⟩
theorem Row.later {H H1 H2 : Heap} {ety sz n : Nat} {cells : List Value} {y : Value} (r : Row H H1 ety sz n cells y) (o : On H1 H2) : Row H H2 ety sz n cells y :=
  ⟨r.own.keep (B_eq o.base) (fun b hb => o.keep b (r.own.lt r.wf hb)), o.wf, o.base.trans r.base, Nat.le_trans r.next o.next, r.new, fun b hb => by rw [o.keep b (Nat.lt_of_lt_of_le hb r.next), r.keep b hb]⟩
def InvI2 (H : Heap) (xd xi : Value) (rd is : List (Int × Int)) (k : Nat) (t : Tm) (H1 : Heap) : Prop :=
  ∃ i y, i + k = rd.length ∧ t 0 = xd ∧ t 1 = xi ∧ t 5 = y ∧ t 6 = iv i ∧ Row H H1 2 1 i (ci (inN (rd.map (·.1)) is i)) y
theorem refIn_T {H : Heap} (hw : H.WF) {xd xi : Value} {rd is : List (Int × Int)} (hd : Twos H xd rd) (hx : Rws H 2 xi (is.map row2)) (hl : rd.length ≤ 1000) (hl2 : is.length ≤ 1000) (hok : ∀ e ∈ is, okI e.2) :
    ∃ o H', T Try.prog 55 [xd, xi] H o H' ∧ Row H H' 2 1 rd.length (ci (inN (rd.map (·.1)) is rd.length)) o := by
  refine T_by hm light55 ?_
  obtain ⟨ad, cd, hxd⟩ := hd.len
  simp [L55]
  refine loop_at (InvI2 H xd xi rd is) rd.length ?_ ?_
  · exact ⟨0, .slice none 0 0, by omega, by simp, by simp, by simp, by simp, by simpa [inN, ci] using Row.nil hw 2 1⟩
  · rintro k t H1 ⟨i, y, hik, t0, t1, t5, t6, row⟩
    cases k with
    | zero =>
      have e1 : ¬ ((i : Int) < rd.length) := by omega
      have e2 : i = rd.length := by omega
      subst e2
      obtain ⟨a2, hy⟩ := row.own.len
      rw [hxd] at t0
      have row' := row
      rw [hy] at t5 row'
      simp [L55_2, t6, t0, e1, t5]
      exact row'
    | succ k =>
      have hil : i < rd.length := by omega
      have e1 : ((i : Int) < rd.length) := by omega
      have e4 : IntKind.i64.wrap ((i : Int) + 1) = ((i + 1 : Nat) : Int) := by rw [w64 _ (by omega)]; omega
      have t0' := t0
      rw [hxd] at t0
      simp [L55_2, t6, t0, e1]
      refine cells_loop (xd := xd) row.wf (hx.keep hw row.base row.keep) hl2 (i : Int) (by simp [t1]) (by simp [t6]) (by simp) (by simp) ?_
      intro t9 H9 y9 g0 g1 g5 g6 g7 row9
      simp at g0 g5
      rw [t0'] at g0
      have rowL := row.later row9.on
      obtain ⟨b, off, c, hdb, l0, _⟩ := (hd.keep hw rowL.base rowL.keep).at hil
      have hfit : ∀ n ∈ ofC is (i : Int), okI n := by
        intro n hn
        unfold ofC at hn
        obtain ⟨e, he, rfl⟩ := List.mem_map.1 hn
        exact hok e (List.mem_filter.1 he).1
      have i9 : Ints H9 .i64 y9 (ofC is i) := Own.ints (by simpa [ci] using row9.own)
      have hT := foldK row9.wf rd[i].1 i9 hfit (by have := ofC_len is i; omega)
      obtain ⟨w, hw'⟩ : ∃ w, w = foldV rd[i].1 (ofC is i) := ⟨_, rfl⟩
      rw [← hw'] at hT
      obtain ⟨HA, ap, row2⟩ := rowL.push [iv w] rfl (by decide) 8 (by omega)
      have hon : ci (inN (rd.map (·.1)) is (i + 1)) = ci (inN (rd.map (·.1)) is i) ++ [iv w] := by
        rw [inN_succ, ci_append, hw']
        simp [ci, List.getD, hil]
      have hz : zerosA [iv 0] 1 = [iv 0] := rfl
      rw [← hon] at row2
      obtain ⟨iN, hiN⟩ : ∃ n : Nat, n = i + 1 := ⟨_, rfl⟩
      rw [← hiN] at e4 row2 ap
      rw [t5] at g5
      have g0' := g0
      rw [hdb] at g0
      simp [g5, g0, g6, hil, l0, g7]
      refine goT_of hT ?_
      simp [hz, g5, ap, g6, e4]
      exact ⟨k, by omega, iN, _, by omega, by simp [g0'], by simp [g1], by simp, by simp, row2⟩
end Go.Proofs.Ytjpdoflmjokplaa
namespace Go.Proofs.Ytjpdoflmjokplaa
open Go.Ot Go.RowKit
set_option linter.unusedSimpArgs false
set_option linter.unusedVariables false
theorem On.row {H H1 H2 : Heap} {ety sz n : Nat} {cells : List Value} {y : Value} (o : On H H1) (r : Row H1 H2 ety sz n cells y) : Row H H2 ety sz n cells y :=
  ⟨r.own, r.wf, r.base.trans o.base, Nat.le_trans o.next r.next, fun b hb => Nat.le_trans o.next (r.new b hb), fun b hb => by rw [r.keep b (Nat.lt_of_lt_of_le hb o.next), o.keep b hb]⟩
theorem inN_ok (ops : List Int) (is : List (Int × Int)) (n : Nat) (hok : ∀ e ∈ is, okI e.2) : ∀ a ∈ inN ops is n, okI a := by
  intro a ha
  unfold inN at ha
  obtain ⟨i, _, rfl⟩ := List.mem_map.1 ha
  refine fold_ok _ _ (fun m hm' => ?_) _ (zero_ok _)
  unfold ofC at hm'
  obtain ⟨e, he, rfl⟩ := List.mem_map.1 hm'
  exact hok e (List.mem_filter.1 he).1
theorem inN_len (ops : List Int) (is : List (Int × Int)) (n : Nat) : (inN ops is n).length = n := by simp [inN]
theorem rlogOnto_T {H : Heap} (hw : H.WF) (d : DL) {rd is : List (Int × Int)} (hd : Twos H d.xd rd) (hx : Rws H 2 d.xi (is.map row2)) {z : Value} {ahead : List Int} (hz : Ints H .i64 z ahead) (la : ahead.length = rd.length) (oka : ∀ n ∈ ahead, okI n) (hl : rd.length ≤ 1000) (hl2 : is.length ≤ 1000) (hok : ∀ e ∈ is, okI e.2) :
    ∃ o H', T Try.prog 43 [dA d, z] H o H' ∧ Row H H' 2 1 rd.length (ci (ontoN (rd.map (·.1)) ahead (inN (rd.map (·.1)) is rd.length) rd.length)) o := by
  refine T_by hm light43 ?_
  have hnB := hw.next_ge
  obtain ⟨HD, hHD⟩ : ∃ HD, HD = H.new 44 8 (dl d) := ⟨_, rfl⟩
  have onD : On H HD := ⟨by rw [hHD]; exact WF_new hw _ _ _, by rw [hHD]; rfl, by rw [hHD]; simp, fun b hb => by rw [hHD]; simp [show b ≠ H.next by omega]⟩
  have nD : HD.next = H.next + 1 := by rw [hHD]; simp
  have V : Vr HD H.next 44 8 (dl d) := by rw [hHD]; exact Vr.mk' hw _ _ _
  have l3 : HD.load ⟨H.next, 3, none⟩ = some d.xd := V.load 3
  have l7 : HD.load ⟨H.next, 7, none⟩ = some d.xi := V.load 7
  obtain ⟨o1, H1, T1, r1⟩ := refIn_T onD.wf (hd.keep hw onD.base onD.keep) (hx.keep hw onD.base onD.keep) hl hl2 hok
  have on1 : On H H1 := ⟨r1.wf, r1.base.trans onD.base, Nat.le_trans onD.next r1.next, fun b hb => by rw [r1.keep b (by omega), onD.keep b hb]⟩
  have V1 : Vr H1 H.next 44 8 (dl d) := V.keep r1.base (r1.keep _ (by omega))
  have l31 : H1.load ⟨H.next, 3, none⟩ = some d.xd := V1.load 3
  have hlen := inN_len (rd.map (·.1)) is rd.length
  have i1 : Ints H1 .i64 o1 (inN (rd.map (·.1)) is rd.length) := by
    refine Own.ints (ety := 2) (n := rd.length) ?_
    have := r1.own
    exact this
  obtain ⟨o2, H2, T2, r2⟩ := refOnto_T r1.wf (hd.keep hw on1.base on1.keep) (hz.keep hw on1.base on1.keep) i1 la hlen oka (inN_ok _ _ _ hok) hl
  obtain ⟨a2, ho2⟩ := r2.own.len
  have rF := on1.row r2
  rw [ho2] at T2 rF
  simp [L43]
  refine ⟨rfl, ?_⟩
  rw [← hHD]
  simp [l3, l7]
  refine goT_of T1 ?_
  simp [l31]
  refine goT_of T2 ?_
  simp
  exact rF
end Go.Proofs.Ytjpdoflmjokplaa
namespace Go.Proofs.Ytjpdoflmjokplaa
open Go.Ot Go.RowKit
set_option linter.unusedSimpArgs false
set_option linter.unusedVariables false
theorem ofC_snoc (is : List (Int × Int)) (c n k : Int) : ofC (is ++ [(c, n)]) k = ofC is k ++ (if c = k then [n] else []) := by
  unfold ofC
  rw [List.filter_append, List.map_append]
  by_cases h : c = k <;> simp [h]
theorem foldV_snoc (op : Int) (l : List Int) (n : Int) : foldV op (l ++ [n]) = joinV op (foldV op l) n := by simp [foldV]
theorem inN_nil (ops : List Int) : inN ops [] ops.length = ops.map zeroV := by
  apply List.ext_getElem
  · simp [inN]
  · intro i h1 h2
    have hi : i < ops.length := by simpa [inN] using h1
    simp [inN, ofC, foldV, List.getD, hi]
theorem inN_snoc (ops : List Int) (is : List (Int × Int)) (c n : Int) (hc : 0 ≤ c ∧ c < ops.length) : inN ops (is ++ [(c, n)]) ops.length = addN ops (inN ops is ops.length) c n := by
  have hm' : may ops c = true := by simp [may, hc.1, hc.2]
  unfold addN
  rw [if_pos hm']
  obtain ⟨j, rfl⟩ : ∃ j : Nat, c = j := ⟨c.toNat, by omega⟩
  have hj : j < ops.length := by omega
  apply List.ext_getElem
  · simp [inN]
  · intro i h1 h2
    have hi : i < ops.length := by simpa [inN] using h1
    have g1 : (inN ops (is ++ [((j : Int), n)]) ops.length)[i]'h1 = foldV (ops.getD i 0) (ofC (is ++ [((j : Int), n)]) i) := by simp [inN]
    rw [g1, ofC_snoc, List.getElem_set]
    by_cases e : j = i
    · subst e
      have g2 : (inN ops is ops.length).getD j 0 = foldV (ops.getD j 0) (ofC is j) := by simp [inN, List.getD, hj]
      have e3 : (j : Int).toNat = j := Int.toNat_natCast j
      rw [if_pos rfl, foldV_snoc, if_pos e3]
      simp only [e3, g2]
    · have e2 : ¬ ((j : Int) = (i : Int)) := by omega
      have e3 : ¬ ((j : Int).toNat = i) := by omega
      rw [if_neg e2, List.append_nil, if_neg e3]
      simp [inN]
theorem addN_no (ops now : List Int) (c n : Int) (hc : ¬ (0 ≤ c ∧ c < ops.length)) : addN ops now c n = now := by
  unfold addN
  rw [if_neg]
  intro h
  simp only [may, Bool.and_eq_true, decide_eq_true_eq] at h
  exact hc h
end Go.Proofs.Ytjpdoflmjokplaa
