/-
  Chapter 8: where one may go on.
-/
import Derived.Test.YtkocomnfomjfiaaSeatK
namespace Go.Proofs.Ytkocomnfomjfiaa
open Go.Ot Go.RowKit
set_option linter.unusedSimpArgs false
set_option linter.unusedVariables false
theorem has_t (k : Int) : hasB (parts k) 116 = (shp k).target := by
  cases hv : valid k with
  | true =>
    rcases kinds hv with rfl | rfl | rfl | rfl | rfl | rfl | rfl | rfl | rfl | rfl | rfl | rfl | rfl <;> rfl
  | false =>
    have : ¬ (1 ≤ k ∧ k ≤ 13) := by simpa [valid] using hv
    have e : parts k = ⟨#[63]⟩ := by unfold parts; rw [if_neg (by simp [hv])]
    rw [e]
    unfold shp
    repeat rw [if_neg (by omega)]
    rfl
/-- The places behind: first the next one, or none. -/
def tlv (o : List Int) (tg : Bool) (k : Int) : List Int :=
  match o with
  | [] => if tg then [k] else []
  | a :: _ => if tg = false ∨ a = k then [a] else if k < a then [k, a] else [a, k]
theorem Og.after {H H2 H3 : Heap} {ety n : Nat} {cs : List Value} {y y' : Value} (hb : H2.base = H.base) (hn : H.next ≤ H2.next) (hk : ∀ b, b < H.next → H2.blk b = H.blk b) (g : Og H2 H3 ety y n cs y') : Og H H3 ety y n cs y' :=
  ⟨g.base.trans hb, Nat.le_trans hn g.next, g.wf, g.own, fun b h1 h2 => (g.same b (by omega) h2).trans (hk b h1), fun b h => by
    rcases g.old b h with h | h
    · exact .inl h
    · exact .inr (by omega)⟩
def Tl20 : LCode := match L20 with | .seq _ (.seq _ (.seq _ (.seq _ (.seq _ r)))) => r | _ => .skip
def A20a : LCode := match L20 with | .seq a _ => a | _ => .skip
def A20b : LCode := match L20 with | .seq _ (.seq a _) => a | _ => .skip
def A20c : LCode := match L20 with | .seq _ (.seq _ (.seq a _)) => a | _ => .skip
def A20d : LCode := match L20 with | .seq _ (.seq _ (.seq _ (.seq a _))) => a | _ => .skip
def A20e : LCode := match L20 with | .seq _ (.seq _ (.seq _ (.seq _ (.seq a _)))) => a | _ => .skip
theorem L20_eq : L20 = .seq A20a (.seq A20b (.seq A20c (.seq A20d (.seq A20e Tl20)))) := rfl
def OutAt (H : Heap) (p : Nat) (o : List Int) (y : Value) : Prop :=
  (o = [] ∧ y = .slice none 0 0) ∨ ∃ a b rest, o = [a] ∧ y = sl b 1 ∧ ¬ b < H.B ∧ H.blk b = some ⟨3, 1, [iv a] ++ rest⟩ ∧ b ≠ p
theorem tl20_w {H : Heap} {t : Tm} {p : Nat} {x : In} {n : Nat} {y : Value} {o : List Int} {xa : Option Addr} {xc : Nat} (hw : H.WF) (hp : ¬ p < H.B) (bp : H.blk p = some ⟨25, 6, rowI x⟩) (t0 : t 0 = .slice xa n xc) (t5 : t 5 = ptr p) (t6 : t 6 = y)
    (hy : OutAt H p o y) {Q : Post} (hQ : ∀ (t' : Tm) (H' : Heap) (y' : Value), t' 4 = y' → Og H H' 3 y (tlv o ((shp x.kind).target && decide (0 ≤ x.k) && decide (x.k < n)) x.k).length ((tlv o ((shp x.kind).target && decide (0 ≤ x.k) && decide (x.k < n)) x.k).map iv) y' → Q .ret t' (rdy H')) : wpA Try.prog Tl20 Q t (rdy H) := by
  obtain ⟨v1, H1, T1, rfl, s1⟩ := shape_T hw x.kind
  have w1 := T1.grow.wf hw
  have n1 := T1.grow.next
  have l0 := fun j => load_at (off := j) hp bp
  simp only [rowI] at l0
  have st := new_storeA w1 53 8 [.bool false, .bool false, .bool false, .bool false, .bool false, .bool false, .bool false, .bool false] (rowS (shp x.kind)) rfl rfl (by decide)
  obtain ⟨H2, hH2⟩ : ∃ H2, H2 = H1.new 53 8 (rowS (shp x.kind)) := ⟨_, rfl⟩
  have w2 : H2.WF := by rw [hH2]; exact WF_new w1 _ _ _
  have n2 : H2.next = H1.next + 1 := by rw [hH2]; rfl
  have b2 : H2.base = H.base := by rw [hH2]; exact T1.1
  have k2 : ∀ b, b < H.next → H2.blk b = H.blk b := fun b hb => by
    rw [hH2]; simp [show b ≠ H1.next by omega]; exact s1 b hb (by simp)
  have ls : ∀ j, H2.load ⟨H1.next, j, none⟩ = (rowS (shp x.kind))[j]? := fun j => by rw [hH2]; exact new_load w1 53 8 _ j
  rw [← hH2] at st
  have hB2 : H2.B = H.B := B_eq b2
  have hpn := hw.lt bp
  have lx : ∀ j, H2.load ⟨p, j, none⟩ = (rowI x)[j]? := fun j => load_at (by rw [hB2]; exact hp) (by rw [k2 p hpn]; exact bp)
  obtain ⟨s, hs⟩ : ∃ s, s = shp x.kind := ⟨_, rfl⟩
  rw [← hs] at T1 st ls hQ
  simp only [rowI] at lx
  simp only [rowS] at ls
  obtain ⟨sa, sb, sc, sce, sk, stg, so, stw⟩ := s
  obtain ⟨xk, xo, xA, xB, xC, k⟩ := x
  simp only at hQ lx ls T1 st l0
  rcases hy with ⟨rfl, rfl⟩ | ⟨a, b, rest, rfl, rfl, hbB, hbk, hbp⟩
  · simp [Tl20, L20, t5, l0]
    refine goT_of T1 ?_
    cases stg with
    | false =>
      simp [st, t0, t6, t5, ls, lx]
      refine hQ _ H2 _ rfl ?_
      simpa [tlv] using Og.after b2 (by omega) k2 (Og.refl w2 (Own.nil H2 3 1))
    | true =>
      by_cases h1 : k < 0
      · have e1 : ¬ (0 ≤ k) := by omega
        simp [st, t0, t6, t5, ls, lx, h1]
        refine hQ _ H2 _ rfl ?_
        simpa [tlv, e1] using Og.after b2 (by omega) k2 (Og.refl w2 (Own.nil H2 3 1))
      · by_cases h2 : (n : Int) ≤ k
        · have e1 : ¬ (k < n) := by omega
          simp [st, t0, t6, t5, ls, lx, h1, h2]
          refine hQ _ H2 _ rfl ?_
          simpa [tlv, e1] using Og.after b2 (by omega) k2 (Og.refl w2 (Own.nil H2 3 1))
        · have e0 : 0 ≤ k := by omega
          have e1 : k < n := by omega
          simp [st, t0, t6, t5, ls, lx, h1, h2]
          obtain ⟨HA, ap, og⟩ := Og.push w2 (Own.nil H2 3 1) (iv k) (bytes := 8) (c := 0) (by omega)
          simp [zerosA, ap]
          refine hQ _ HA (sl (H2.next + 1) 1) (by simp) ?_
          simpa [tlv, e0, e1] using Og.after b2 (by omega) k2 og
  · have hb2 : H2.blk b = some ⟨3, 1, [iv a] ++ rest⟩ := by rw [k2 b (hw.lt hbk)]; exact hbk
    have lb : ∀ j, H2.load ⟨b, j, none⟩ = ([iv a] ++ rest)[j]? := fun j => load_at (by rw [hB2]; exact hbB) hb2
    have oy : Own H2 3 1 1 [iv a] (sl b 1) := ⟨rfl, .inr ⟨b, rest, rfl, by rw [hB2]; exact hbB, hb2⟩⟩
    simp only [List.singleton_append] at lb
    simp [Tl20, L20, t5, l0]
    refine goT_of T1 ?_
    cases stg with
    | false =>
      simp [st, t0, t6, t5, ls, lx]
      refine hQ _ H2 _ rfl ?_
      simpa [tlv] using Og.after b2 (by omega) k2 (Og.refl w2 oy)
    | true =>
      by_cases h1 : k < 0
      · have e1 : ¬ (0 ≤ k) := by omega
        simp [st, t0, t6, t5, ls, lx, h1]
        refine hQ _ H2 _ rfl ?_
        simpa [tlv, e1] using Og.after b2 (by omega) k2 (Og.refl w2 oy)
      · by_cases h2 : (n : Int) ≤ k
        · have e1 : ¬ (k < n) := by omega
          simp [st, t0, t6, t5, ls, lx, h1, h2]
          refine hQ _ H2 _ rfl ?_
          simpa [tlv, e1] using Og.after b2 (by omega) k2 (Og.refl w2 oy)
        · have e0 : 0 ≤ k := by omega
          have e1 : k < n := by omega
          by_cases h3 : a = k
          · simp [st, t0, t6, t5, ls, lx, h1, h2, lb, h3]
            refine hQ _ H2 _ rfl ?_
            simpa [tlv, e1, h3] using Og.after b2 (by omega) k2 (Og.refl w2 oy)
          · have h3' : (a == k) = false := by simp [h3]
            by_cases h4 : k < a
            · simp [st, t0, t6, t5, ls, lx, h1, h2, lb, h3', h4]
              simp [zerosA]
              refine hQ _ (H2.new 3 1 [iv k, iv a]) (sl H2.next 2) (by simp) ?_
              have hd : ¬ (a = k) := h3
              simp only [tlv, e0, e1, h4, hd, decide_true, Bool.and_self, Bool.true_eq_false, or_self, if_true, if_false]
              refine Og.after b2 (by omega) k2 ⟨rfl, by simp, WF_new w2 _ _ _, Own.mk rfl (by simpa using w2.next_ge) (by simp), fun b hb _ => by simp [show b ≠ H2.next by omega], fun b hb => ?_⟩
              simp at hb; subst hb; exact .inr (Nat.le_refl _)
            · simp [st, t0, t6, t5, ls, lx, h1, h2, lb, h3', h4]
              obtain ⟨HA, ap, og⟩ := Og.push w2 oy (iv k) (bytes := 8) (c := 0) (by omega)
              simp [zerosA, ap]
              refine hQ _ HA (sl (H2.next + 1) 2) (by simp) ?_
              have hd : ¬ (a = k) := h3
              simp only [tlv, e0, e1, h4, hd, decide_true, Bool.and_self, Bool.true_eq_false, or_self, if_true, if_false]
              exact Og.after b2 (by omega) k2 og
def tgtV (l : List In) (at' : Int) : List Int :=
  if at' < 0 ∨ (l.length : Int) ≤ at' then [] else match l[at'.toNat]? with
    | none => []
    | some x => tlv (if fallsV x.kind && decide (at' + 1 < l.length) then [at' + 1] else []) ((shp x.kind).target && decide (0 ≤ x.k) && decide (x.k < l.length)) x.k
abbrev GI (H H' : Heap) (l : List Int) (y : Value) : Prop := Og H H' 3 (.slice none 0 0) l.length (l.map iv) y
theorem targets_T {H : Heap} (hw : H.WF) {xl : Value} {l : List In} (hx : Rws H 6 xl (l.map rowI)) (at' : Int) (hl : l.length ≤ 1000) : ∃ v H', T Try.prog 20 [xl, iv at'] H v H' ∧ GI H H' (tgtV l at') v := by
  refine T_by hm light20 ?_
  obtain ⟨xa, xc, hxl⟩ := hx.len
  rw [List.length_map] at hxl
  by_cases h1 : at' < 0
  · have e : tgtV l at' = [] := by unfold tgtV; rw [if_pos (.inl h1)]
    rw [e, hxl]
    simp [L20, h1]
    exact Og.refl hw (Own.nil H 3 1)
  by_cases h2 : (l.length : Int) ≤ at'
  · have e : tgtV l at' = [] := by unfold tgtV; rw [if_pos (.inr h2)]
    rw [e, hxl]
    simp [L20, h1, h2]
    exact Og.refl hw (Own.nil H 3 1)
  obtain ⟨i, rfl⟩ : ∃ i : Nat, at' = i := ⟨at'.toNat, by omega⟩
  have hi : i < l.length := by omega
  obtain ⟨b, off, c, hyb, hlen, ld, _⟩ := hx.at (i := i) (by simpa using hi)
  simp only [List.getElem_map, List.length_map] at hyb hlen ld
  obtain ⟨x, hxi⟩ : ∃ x, x = l[i] := ⟨_, rfl⟩
  rw [← hxi] at ld
  have e : tgtV l i = tlv (if fallsV x.kind && decide ((i : Int) + 1 < l.length) then [(i : Int) + 1] else []) ((shp x.kind).target && decide (0 ≤ x.k) && decide (x.k < l.length)) x.k := by
    unfold tgtV
    rw [if_neg (by omega)]
    simp [hi, hxi]
  rw [e]
  have st := new_storeA hw 25 6 [.int .i64 0, .int .i64 0, .int .i64 0, .int .i64 0, .int .i64 0, .int .i64 0] (rowI x) rfl rfl (by decide)
  have lo := new_loadA hw 25 6 (rowI x) rfl
  obtain ⟨H1, hH1⟩ : ∃ H1, H1 = H.new 25 6 (rowI x) := ⟨_, rfl⟩
  have w1 : H1.WF := by rw [hH1]; exact WF_new hw _ _ _
  have n1 : H1.next = H.next + 1 := by rw [hH1]; rfl
  have b1 : H1.base = H.base := by rw [hH1]; rfl
  have k1 : ∀ b, b < H.next → H1.blk b = H.blk b := fun b hb => by rw [hH1]; simp [show b ≠ H.next by omega]
  have q1 : H1.blk H.next = some ⟨25, 6, rowI x⟩ := by rw [hH1]; simp
  rw [← hH1] at st lo
  obtain ⟨v2, H2, T2, rfl, s2⟩ := falls_T w1 x
  have w2 := T2.grow.wf w1
  have n2 := T2.grow.next
  have b2 : H2.base = H.base := T2.1.trans b1
  have k2 : ∀ b, b < H.next → H2.blk b = H.blk b := fun b hb => (s2 b (by omega) (by simp)).trans (k1 b hb)
  have q2 : H2.blk H.next = some ⟨25, 6, rowI x⟩ := (s2 _ (by omega) (by simp)).trans q1
  have hnB : ¬ H.next < H2.B := by rw [B_eq b2]; exact hw.next_ge
  have w64' : IntKind.i64.wrap ((i : Int) + 1) = ((i + 1 : Nat) : Int) := by rw [w64 _ (by omega)]; omega
  have fin : ∀ {t : Tm} {H3 : Heap} {y : Value} {o : List Int} {xa : Option Addr} {xc : Nat}, H3.WF → H3.base = H.base → H.next ≤ H3.next → (∀ b, b < H.next → H3.blk b = H.blk b) → H3.blk H.next = some ⟨25, 6, rowI x⟩ → t 0 = .slice xa l.length xc → t 5 = ptr H.next → t 6 = y → OutAt H3 H.next o y → (∀ b, blkOf y = some b → H.next ≤ b) →
      wpA Try.prog Tl20 (EndA (fun v H' => GI H H' (tlv o ((shp x.kind).target && decide (0 ≤ x.k) && decide (x.k < l.length)) x.k) v) [.tmp 4]) t (rdy H3) := by
    intro t H3 y o xa xc w3 b3 n3 k3 q3 t0 t5 t6 oa hy
    refine tl20_w w3 (by rw [B_eq b3]; exact hw.next_ge) q3 t0 t5 t6 oa (fun t' H' y' h4 og => ?_)
    obtain ⟨ya, hya⟩ := og.own.len
    simp [h4]
    refine ⟨by rw [hya]; rfl, ?_⟩
    exact ⟨og.base.trans b3, Nat.le_trans n3 og.next, og.wf, og.own, fun b hb _ => (og.same b (by omega) (fun h => by have := hy b h; omega)).trans (k3 b hb), fun b h => by
      rcases og.old b h with h | h
      · exact .inr (hy b h)
      · exact .inr (by omega)⟩
  rw [L20_eq]
  rw [hyb]
  obtain ⟨n, hn⟩ : ∃ n, n = l.length := ⟨_, rfl⟩
  rw [← hn] at fin h2 hi ⊢
  obtain ⟨r, hr⟩ : ∃ r, r = (if fallsV x.kind && decide ((i : Int) + 1 < n) then [(i : Int) + 1] else []) := ⟨_, rfl⟩
  rw [← hr]
  simp [A20a, A20b, A20c, A20d, A20e, L20, h1, h2, hi, ld, st, lo]
  refine goT_of T2 ?_
  have F := @fin
  obtain ⟨i1, hi1⟩ : ∃ i1, i1 = i + 1 := ⟨_, rfl⟩
  have e7 : (i : Int) + 1 = i1 := by omega
  rw [e7] at hr
  rw [← hi1] at w64'
  by_cases e6 : i1 < n
  · cases hf : fallsV x.kind with
    | false =>
      have r0 : r = [] := by rw [hr]; simp [hf]
      simp
      exact fin (xa := some ⟨b, off, none⟩) (xc := c) w2 b2 (by omega) k2 q2 (by simp) (by simp) (by simp) (.inl ⟨r0, rfl⟩) (by simp)
    | true =>
      have r0 : r = [(i1 : Int)] := by rw [hr]; simp [hf, e6]
      obtain ⟨HA, ap, og⟩ := Og.push w2 (Own.nil H2 3 1) (iv i1) (bytes := 8) (c := 0) (by omega)
      simp [w64', e6, zerosA, ap]
      have og2 : Og H2 HA 3 (.slice none 0 0) 1 [iv i1] (sl (H2.next + 1) 1) := og
      have sa : ∀ b, b < H2.next → HA.blk b = H2.blk b := fun b hb => og2.same b hb (by simp)
      rcases og2.own.2 with ⟨h, _⟩ | ⟨b', rest, hb1, hB', hb2⟩
      · cases h
      · have hbb : b' = H2.next + 1 := by simpa using hb1.symm
        subst hbb
        exact fin (xa := some ⟨b, off, none⟩) (xc := c) og2.wf (og2.base.trans b2) (by have := og2.next; omega) (fun b hb => (sa b (by omega)).trans (k2 b hb)) ((sa _ (by omega)).trans q2) (by simp) (by simp) (by simp)
          (.inr ⟨i1, _, rest, r0, rfl, hB', hb2, by omega⟩) (fun b hb => by simp at hb; omega)
  · cases hf : fallsV x.kind with
    | false =>
      have r0 : r = [] := by rw [hr]; simp [hf]
      simp
      exact fin (xa := some ⟨b, off, none⟩) (xc := c) w2 b2 (by omega) k2 q2 (by simp) (by simp) (by simp) (.inl ⟨r0, rfl⟩) (by simp)
    | true =>
      have r0 : r = [] := by rw [hr]; simp [e6]
      simp [w64', e6]
      exact fin (xa := some ⟨b, off, none⟩) (xc := c) w2 b2 (by omega) k2 q2 (by simp) (by simp) (by simp) (.inl ⟨r0, rfl⟩) (by simp)
end Go.Proofs.Ytkocomnfomjfiaa
