/-
  Chapter 23: GraphFalls' loops.
-/
import Derived.Test.YtadegahkgpedgaaSeatQ
namespace Go.Proofs.Ytadegahkgpedgaa
open Go.Ot Go.RowKit
set_option linter.unusedSimpArgs false
set_option linter.unusedVariables false
def lean1 (f : List Int) (d : Int) (e : Ed) : Bool := (e.1 == d) && decide (e.2 ∈ f)
theorem any_take {L : List Ed} {P : Ed → Bool} {i : Nat} (h : i < L.length) : (L.take (i + 1)).any P = ((L.take i).any P || P L[i]) := by
  rw [List.take_add_one, List.getElem?_eq_getElem h, List.any_append]
  simp
theorem row_edges {H : Heap} {ey : Value} {L : List Ed} (he : Rws H 2 ey (L.map edv)) {i : Nat} (h : i < L.length) :
    ∃ b off c, ey = .slice (some ⟨b, off, none⟩) L.length c ∧ H.load ⟨b, off + i * 2, none⟩ = some (iv L[i].1) ∧ H.load ⟨b, off + i * 2 + 1, none⟩ = some (iv L[i].2) := by
  obtain ⟨b, off, c2, hxe, hl2, _, hld⟩ := he.at (i := i) (by simpa using h)
  rw [List.length_map] at hxe
  refine ⟨b, off, c2, hxe, ?_, ?_⟩
  · have := hld 0 (by rw [hl2]; decide)
    simpa [edv] using this
  · have := hld 1 (by rw [hl2]; decide)
    simpa [edv] using this
def Inv2 (H : Heap) (o ey : Value) (f : List Int) (L : List Ed) (i : Nat) (hi : i < f.length) (l0 : Bool) (t0 : Tm) (k : Nat) (t : Tm) (H1 : Heap) : Prop :=
  ∃ j, j + k = L.length ∧ t 1 = t0 1 ∧ t 5 = t0 5 ∧ t 10 = o ∧ t 11 = ey ∧ t 12 = iv i ∧ t 14 = iv j ∧ t 13 = .bool (l0 || (L.take j).any (lean1 f f[i])) ∧ H1 = H
theorem loop2 {H : Heap} {o ey : Value} {f : List Int} {L : List Ed} (ho : Ints H .i64 o f) (he : Rws H 2 ey (L.map edv)) (hL : L.length ≤ 10000) (hfl : f.length ≤ 100000) {i : Nat} (hi : i < f.length) {l0 : Bool} {Q : Exit → Tm → Heap → Prop} {t : Tm}
    (t10 : t 10 = o) (t11 : t 11 = ey) (t12 : t 12 = iv i) (t13 : t 13 = .bool l0) (t14 : t 14 = iv 0)
    (hQ : ∀ t1, t1 1 = t 1 → t1 5 = t 5 → t1 10 = o → t1 11 = ey → t1 12 = iv i → t1 13 = .bool (l0 || L.any (lean1 f f[i])) → Q (.exit 4) t1 (rdy H)) : wpA Try.prog (.loop L4_2) Q t (rdy H) := by
  refine loop_at (Inv2 H o ey f L i hi l0 t) L.length ?_ ?_
  · exact ⟨0, by omega, rfl, rfl, t10, t11, t12, t14, by simpa using t13, rfl⟩
  · rintro k t1 H1 ⟨j, hjk, u1, u5, u10, u11, u12, u14, u13, rfl⟩
    obtain ⟨a, c, hey⟩ := he.len
    rw [List.length_map] at hey
    cases k with
    | zero =>
      have e1 : ¬ ((j : Int) < L.length) := by omega
      have e2 : j = L.length := by omega
      rw [e2, List.take_length] at u13
      have hq := fun (t9 : Tm) (h1 : t9 1 = t1 1) (h5 : t9 5 = t1 5) (h10 : t9 10 = t1 10) (h11 : t9 11 = t1 11) (h12 : t9 12 = t1 12) (h13 : t9 13 = t1 13) =>
        hQ t9 (h1.trans u1) (h5.trans u5) (h10.trans u10) (h11.trans u11) (h12.trans u12) (h13.trans u13)
      have u11' := u11
      rw [hey] at u11
      simp [L4_2, u14, u11, e1]
      exact hq _ (by simp) (by simp) (by simp) (by simp) (by simp) (by simp)
    | succ k =>
      have hjl : j < L.length := by omega
      have e1 : ((j : Int) < L.length) := by omega
      have e4 : IntKind.i64.wrap ((j : Int) + 1) = ((j + 1 : Nat) : Int) := by rw [w64 _ (by omega)]; omega
      have hat := any_take (P := lean1 f f[i]) hjl
      obtain ⟨jN, hjN⟩ : ∃ n : Nat, n = j + 1 := ⟨_, rfl⟩
      rw [← hjN] at e4 hat
      obtain ⟨b, off, c2, hxe, l0', l1'⟩ := row_edges he hjl
      obtain ⟨b2, off2, c3, hof, ld2⟩ := ho.at hi
      obtain ⟨e, hee⟩ : ∃ e, e = L[j] := ⟨_, rfl⟩
      rw [← hee] at l0' l1' hat
      obtain ⟨d, hd⟩ : ∃ d, d = f[i] := ⟨_, rfl⟩
      rw [← hd] at ld2 hat
      have u13' := u13
      rw [← hd] at u13'
      have hh := has_T (H := H1) ho e.2 (by omega)
      have next : ∀ t' : Tm, t' 1 = t1 1 → t' 5 = t1 5 → t' 10 = t1 10 → t' 11 = t1 11 → t' 12 = t1 12 → t' 14 = iv jN → t' 13 = .bool (l0 || (L.take jN).any (lean1 f d)) → ∃ m, m < k + 1 ∧ Inv2 H1 o ey f L i hi l0 t m t' (rdy H1) := by
        intro t' g1 g5 g10 g11 g12 g14 g13
        exact ⟨k, by omega, jN, by omega, g1.trans u1, g5.trans u5, g10.trans u10, g11.trans u11, g12.trans u12, g14, by rw [← hd]; exact g13, rfl⟩
      have u10' := u10
      have u11' := u11
      rw [hof] at u10
      rw [hxe] at u11
      obtain ⟨w, hw⟩ : ∃ w, w = (l0 || (L.take j).any (lean1 f d)) := ⟨_, rfl⟩
      rw [← hw] at u13'
      have hres : (l0 || (L.take jN).any (lean1 f d)) = (w || lean1 f d e) := by rw [hat, hw, Bool.or_assoc]
      rw [hres] at next
      rw [hof] at hh
      cases w with
      | true =>
        simp [L4_2, u14, u11, e1, u13', e4]
        exact next _ (by simp) (by simp) (by simp) (by simp) (by simp) (by simp) (by simp)
      | false =>
        by_cases h1 : e.1 = d
        · have hb : (e.1 == d) = true := by simpa using h1
          simp [L4_2, u14, u11, e1, u13', l0', u12, u10, hi, ld2, hb, l1']
          refine goT_of hh ?_
          simp [u14, e4]
          exact next _ (by simp) (by simp) (by simp) (by simp) (by simp) (by simp) (by simp [lean1, hb])
        · have hb : (e.1 == d) = false := by simpa using h1
          simp [L4_2, u14, u11, e1, u13', l0', u12, u10, hi, ld2, hb, e4]
          exact next _ (by simp) (by simp) (by simp) (by simp) (by simp) (by simp) (by simp [lean1, hb])
def Inv3 (H : Heap) (o ey : Value) (f : List Int) (age : Int) (t0 : Tm) (k : Nat) (t : Tm) (H1 : Heap) : Prop :=
  ∃ i, i + k = f.length ∧ t 1 = iv age ∧ t 5 = t0 5 ∧ t 10 = o ∧ t 11 = ey ∧ t 12 = iv i ∧ H1 = H
theorem loop3 {H : Heap} {o ey : Value} {f : List Int} {L : List Ed} {age : Int} (ho : Ints H .i64 o f) (he : Rws H 2 ey (L.map edv)) (hL : L.length ≤ 10000) (hfl : f.length ≤ 100000) (hv : FallV L age f) {Q : Exit → Tm → Heap → Prop} {t : Tm}
    (t1 : t 1 = iv age) (t10 : t 10 = o) (t11 : t 11 = ey) (t12 : t 12 = iv 0)
    (hQ : ∀ t9, t9 1 = iv age → t9 5 = t 5 → t9 10 = o → t9 11 = ey → Q (.exit 2) t9 (rdy H)) : wpA Try.prog (.loop L4_3) Q t (rdy H) := by
  refine loop_at (Inv3 H o ey f age t) f.length ?_ ?_
  · exact ⟨0, by omega, t1, rfl, t10, t11, t12, rfl⟩
  · rintro k tt H1 ⟨i, hik, u1, u5, u10, u11, u12, rfl⟩
    obtain ⟨ao, co, hof'⟩ := ho.len
    cases k with
    | zero =>
      have e1 : ¬ ((i : Int) < f.length) := by omega
      have hq := fun (t9 : Tm) (h1 : t9 1 = tt 1) (h5 : t9 5 = tt 5) (h10 : t9 10 = tt 10) (h11 : t9 11 = tt 11) =>
        hQ t9 (h1.trans u1) (h5.trans u5) (h10.trans u10) (h11.trans u11)
      rw [hof'] at u10
      simp [L4_3, u12, u10, e1]
      exact hq _ (by simp) (by simp) (by simp) (by simp)
    | succ k =>
      have hil : i < f.length := by omega
      have e1 : ((i : Int) < f.length) := by omega
      have e4 : IntKind.i64.wrap ((i : Int) + 1) = ((i + 1 : Nat) : Int) := by rw [w64 _ (by omega)]; omega
      obtain ⟨iN, hiN⟩ : ∃ n : Nat, n = i + 1 := ⟨_, rfl⟩
      rw [← hiN] at e4
      obtain ⟨b2, off2, c3, hof, ld2⟩ := ho.at hil
      have hlean : (decide (f[i] = age) || L.any (lean1 f f[i])) = true := by
        rcases hv.lean f[i] (List.getElem_mem hil) with h | ⟨e, he', h1, h2⟩
        · simp [h]
        · have : L.any (lean1 f f[i]) = true := List.any_eq_true.2 ⟨e, he', by simp [lean1, h1, h2]⟩
          simp [this]
      have hb0 : (f[i] == age) = decide (f[i] = age) := rfl
      have next : ∀ t9 : Tm, t9 1 = tt 1 → t9 5 = tt 5 → t9 10 = o → t9 11 = ey → t9 12 = iv iN → ∃ m, m < k + 1 ∧ Inv3 H1 o ey f age t m t9 (rdy H1) :=
        fun t9 g1 g5 g10 g11 g12 => ⟨k, by omega, iN, by omega, g1.trans u1, g5.trans u5, g10, g11, g12, rfl⟩
      have u10' := u10
      rw [hof] at u10
      obtain ⟨l0, hl0⟩ : ∃ l0, l0 = decide (f[i] = age) := ⟨_, rfl⟩
      rw [← hl0] at hlean hb0
      by_cases hi0 : i = 0
      · subst hi0
        have u12' : tt 12 = iv 0 := u12
        have ld2' : H1.load ⟨b2, off2, none⟩ = some (iv f[0]) := ld2
        have hbb : (f[0] == age) = l0 := hb0
        have hpos : 0 < f.length := hil
        simp [L4_3, u12', u10, hpos, ld2', u1, hbb]
        refine loop2 ho he hL hfl hil (l0 := l0) (by simp [u10']) (by simp [u11]) (by simp [u12']) (by simp) (by simp) ?_
        intro t9 g1 g5 g10 g11 g12 g13
        simp at g1 g5
        rw [hlean] at g13
        simp [g13, g12, e4]
        exact next _ (by simp [g1]) (by simp [g5]) (by simp [g10]) (by simp [g11]) (by simp [hiN])
      · obtain ⟨j, hj⟩ : ∃ j, i = j + 1 := ⟨i - 1, by omega⟩
        have hjl : j < f.length := by omega
        obtain ⟨b9, off9, c9, hof9, ld9⟩ := ho.at hjl
        rw [hof] at hof9
        simp at hof9
        obtain ⟨⟨rfl, rfl⟩, rfl⟩ := hof9
        have hlt := List.pairwise_iff_getElem.1 hv.inc j i hjl hil (by omega)
        have hle : ¬ f[i] ≤ f[j] := by omega
        have hpos : 0 < i := by omega
        have c5 : IntKind.i64.wrap ((i : Int) - 1) = (j : Int) := by rw [w64 _ (by omega)]; omega
        simp [L4_3, u12, u10, e1, hil, hpos, c5, hjl, ld9, ld2, hle, u1, hb0]
        refine loop2 ho he hL hfl hil (l0 := l0) (by simp [u10']) (by simp [u11]) (by simp [u12]) (by simp) (by simp) ?_
        intro t9 g1 g5 g10 g11 g12 g13
        simp at g1 g5
        rw [hlean] at g13
        simp [g13, g12, e4]
        exact next _ (by simp [g1]) (by simp [g5]) (by simp [g10]) (by simp [g11]) (by simp)
def Inv4 (H : Heap) (o ey : Value) (L : List Ed) (t0 : Tm) (k : Nat) (t : Tm) (H1 : Heap) : Prop :=
  ∃ i, i + k = L.length ∧ t 5 = t0 5 ∧ t 10 = o ∧ t 11 = ey ∧ t 15 = iv i ∧ H1 = H
theorem loop4 {H : Heap} {o ey : Value} {f : List Int} {L : List Ed} {age : Int} (ho : Ints H .i64 o f) (he : Rws H 2 ey (L.map edv)) (hL : L.length ≤ 10000) (hfl : f.length ≤ 100000) (hv : FallV L age f) {Q : Exit → Tm → Heap → Prop} {t : Tm}
    (t10 : t 10 = o) (t11 : t 11 = ey) (t15 : t 15 = iv 0)
    (hQ : ∀ t9, t9 5 = t 5 → t9 10 = o → Q (.exit 6) t9 (rdy H)) : wpA Try.prog (.loop L4_4) Q t (rdy H) := by
  refine loop_at (Inv4 H o ey L t) L.length ?_ ?_
  · exact ⟨0, by omega, rfl, t10, t11, t15, rfl⟩
  · rintro k tt H1 ⟨i, hik, u5, u10, u11, u15, rfl⟩
    obtain ⟨a, c, hey⟩ := he.len
    rw [List.length_map] at hey
    cases k with
    | zero =>
      have e1 : ¬ ((i : Int) < L.length) := by omega
      have hq := fun (t9 : Tm) (h5 : t9 5 = tt 5) (h10 : t9 10 = tt 10) => hQ t9 (h5.trans u5) (h10.trans u10)
      rw [hey] at u11
      simp [L4_4, u15, u11, e1]
      exact hq _ (by simp) (by simp)
    | succ k =>
      have hil : i < L.length := by omega
      have e1 : ((i : Int) < L.length) := by omega
      have e4 : IntKind.i64.wrap ((i : Int) + 1) = ((i + 1 : Nat) : Int) := by rw [w64 _ (by omega)]; omega
      obtain ⟨iN, hiN⟩ : ∃ n : Nat, n = i + 1 := ⟨_, rfl⟩
      rw [← hiN] at e4
      obtain ⟨b, off, c2, hxe, l0', l1'⟩ := row_edges he hil
      have hcl := hv.closed L[i] (List.getElem_mem hil)
      have hw := has_T (H := H1) ho L[i].2 (by omega)
      have hr := has_T (H := H1) ho L[i].1 (by omega)
      have next : ∀ t9 : Tm, t9 5 = tt 5 → t9 10 = tt 10 → t9 11 = tt 11 → t9 15 = iv iN → ∃ m, m < k + 1 ∧ Inv4 H1 o ey L t m t9 (rdy H1) :=
        fun t9 g5 g10 g11 g15 => ⟨k, by omega, iN, by omega, g5.trans u5, g10.trans u10, g11.trans u11, g15, rfl⟩
      have u11' := u11
      rw [hxe] at u11
      by_cases h2 : L[i].2 ∈ f
      · have h1 := hcl h2
        rw [show decide (L[i].2 ∈ f) = true by simpa using h2] at hw
        rw [show decide (L[i].1 ∈ f) = true by simpa using h1] at hr
        simp [L4_4, u15, u11, e1, hil, l1']
        refine goT_of (by rw [u10]; exact hw) ?_
        simp [u10, u11, u15, hil, l0']
        refine goT_of hr ?_
        simp [u15, e4]
        exact next _ (by simp) (by simp) (by simp) (by simp)
      · rw [show decide (L[i].2 ∈ f) = false by simpa using h2] at hw
        simp [L4_4, u15, u11, e1, hil, l1']
        refine goT_of (by rw [u10]; exact hw) ?_
        simp [u15, e4]
        exact next _ (by simp) (by simp) (by simp) (by simp)
def Valid (L : List Ed) : Prop := ∀ e ∈ L, 0 ≤ e.2 ∧ e.2 < e.1
/-- A graph, and a row beside it. -/
structure GI (H1 : Heap) (p : Nat) (f : List Int) (o : Value) (L : List Ed) (x : Value) : Prop where
  gr : GR H1 p 512 L x
  wf : H1.WF
  row : Ints H1 .i64 o f
  sep : ∀ b, blkOf o = some b → b < H1.next ∧ b ≠ p ∧ blkOf x ≠ some b
def Inv5 (p : Nat) (o : Value) (f : List Int) (k : Nat) (t : Tm) (H1 : Heap) : Prop :=
  ∃ i L x, i + k = f.length ∧ t 5 = ptr p ∧ t 10 = o ∧ t 16 = iv i ∧ GI H1 p f o L x ∧ Valid L ∧ ∀ e ∈ L, e.2 ∉ f.take i
theorem loop5 {H : Heap} {p : Nat} {o x : Value} {f : List Int} {L : List Ed} (hg : GI H p f o L x) (hV : Valid L) (hfl : f.length ≤ 100000) {Q : Exit → Tm → Heap → Prop} {t : Tm}
    (t5 : t 5 = ptr p) (t10 : t 10 = o) (t16 : t 16 = iv 0)
    (hQ : ∀ t9 H9 L9 x9, t9 5 = ptr p → t9 10 = o → GI H9 p f o L9 x9 → Valid L9 → (∀ e ∈ L9, e.2 ∉ f) → Q (.exit 8) t9 (rdy H9)) : wpA Try.prog (.loop L4_5) Q t (rdy H) := by
  refine loop_at (Inv5 p o f) f.length ?_ ?_
  · exact ⟨0, L, x, by omega, t5, t10, t16, hg, hV, by simp⟩
  · rintro k tt H1 ⟨i, L1, x1, hik, u5, u10, u16, g1, hV1, hno⟩
    obtain ⟨ao, co, hof'⟩ := g1.row.len
    cases k with
    | zero =>
      have e1 : ¬ ((i : Int) < f.length) := by omega
      have e2 : i = f.length := by omega
      rw [e2, List.take_length] at hno
      have hq := fun (t9 : Tm) (h5 : t9 5 = tt 5) (h10 : t9 10 = tt 10) => hQ t9 H1 L1 x1 (h5.trans u5) (h10.trans u10) g1 hV1 hno
      rw [hof'] at u10
      simp [L4_5, u16, u10, e1]
      exact hq _ (by simp) (by simp)
    | succ k =>
      have hil : i < f.length := by omega
      have e1 : ((i : Int) < f.length) := by omega
      have e4 : IntKind.i64.wrap ((i : Int) + 1) = ((i + 1 : Nat) : Int) := by rw [w64 _ (by omega)]; omega
      have htk : f.take (i + 1) = f.take i ++ [f[i]] := by rw [List.take_add_one, List.getElem?_eq_getElem hil]; rfl
      obtain ⟨iN, hiN⟩ : ∃ n : Nat, n = i + 1 := ⟨_, rfl⟩
      rw [← hiN] at e4 htk
      obtain ⟨b2, off2, c3, hof, ld2⟩ := g1.row.at hil
      obtain ⟨H2, x2, hT, gr2, aft⟩ := remove_T g1.wf g1.gr f[i]
      have hb2 : blkOf o = some b2 := by rw [hof]; rfl
      have hs := g1.sep b2 hb2
      have g2 : GI H2 p f o (L1.filter (offE f[i])) x2 := by
        refine ⟨gr2, aft.wf, g1.row.frame aft.base (fun b hb => aft.keep b (g1.sep b hb).1 (g1.sep b hb).2.1 (g1.sep b hb).2.2), fun b hb => ?_⟩
        obtain ⟨s1, s2, s3⟩ := g1.sep b hb
        refine ⟨Nat.lt_of_lt_of_le s1 aft.next, s2, fun h => ?_⟩
        rcases aft.new b h with h4 | h4
        · exact s3 h4
        · omega
      have u10' := u10
      rw [hof] at u10
      simp [L4_5, u16, u10, e1, hil, ld2, u5]
      refine goT_of hT ?_
      simp [u16, e4]
      refine ⟨k, by omega, iN, _, x2, by omega, by simp [u5], by simp [u10'], by simp, g2, fun e he => hV1 e (List.mem_filter.1 he).1, fun e he => ?_⟩
      obtain ⟨h1, h2⟩ := List.mem_filter.1 he
      rw [htk]
      simp only [offE, Bool.and_eq_true, bne_iff_ne] at h2
      simp only [List.mem_append, List.mem_singleton, not_or]
      exact ⟨hno e h1, h2.2⟩
def Inv6 (p : Nat) (o : Value) (f : List Int) (L : List Ed) (x : Value) (k : Nat) (t : Tm) (H1 : Heap) : Prop :=
  ∃ i, i + k = f.length ∧ t 5 = ptr p ∧ t 10 = o ∧ t 17 = iv i ∧ GI H1 p f o L x
theorem loop6 {H : Heap} {p : Nat} {o x : Value} {f : List Int} {L : List Ed} (hg : GI H p f o L x) (hV : Valid L) (hno : ∀ e ∈ L, e.2 ∉ f) (hfl : f.length ≤ 100000) {Q : Exit → Tm → Heap → Prop} {t : Tm}
    (t5 : t 5 = ptr p) (t10 : t 10 = o) (t17 : t 17 = iv 0)
    (hQ : ∀ t9 H9, H9.WF → Q (.exit 10) t9 (rdy H9)) : wpA Try.prog (.loop L4_6) Q t (rdy H) := by
  refine loop_at (Inv6 p o f L x) f.length ?_ ?_
  · exact ⟨0, by omega, t5, t10, t17, hg⟩
  · rintro k tt H1 ⟨i, hik, u5, u10, u17, g1⟩
    obtain ⟨ao, co, hof'⟩ := g1.row.len
    cases k with
    | zero =>
      have e1 : ¬ ((i : Int) < f.length) := by omega
      rw [hof'] at u10
      simp [L4_6, u17, u10, e1]
      exact hQ _ H1 g1.wf
    | succ k =>
      have hil : i < f.length := by omega
      have e1 : ((i : Int) < f.length) := by omega
      have e4 : IntKind.i64.wrap ((i : Int) + 1) = ((i + 1 : Nat) : Int) := by rw [w64 _ (by omega)]; omega
      obtain ⟨iN, hiN⟩ : ∃ n : Nat, n = i + 1 := ⟨_, rfl⟩
      rw [← hiN] at e4
      obtain ⟨b2, off2, c3, hof, ld2⟩ := g1.row.at hil
      obtain ⟨y, H2, hT, row⟩ := readers_T g1.wf g1.gr f[i] (fun e he => by have := hV e he; omega)
      have hrd : rd L f[i] = [] := by
        apply rd_none
        intro q hq h
        exact hno L[q] (List.getElem_mem hq) (by rw [h]; exact List.getElem_mem hil)
      rw [hrd] at row
      obtain ⟨ay, hy⟩ := row.own.len
      have g2 : GI H2 p f o L x := ⟨g1.gr.keep g1.wf row.base row.keep, row.wf, g1.row.keep g1.wf row.base row.keep, fun b hb => ⟨Nat.lt_of_lt_of_le (g1.sep b hb).1 row.next, (g1.sep b hb).2⟩⟩
      have u10' := u10
      rw [hof] at u10
      simp [L4_6, u17, u10, e1, hil, ld2, u5]
      refine goT_of hT ?_
      rw [hy]
      simp [u17, e4]
      exact ⟨k, by omega, iN, by omega, by simp [u5], by simp [u10'], by simp, g2⟩
end Go.Proofs.Ytadegahkgpedgaa
