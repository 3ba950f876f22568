/-
  Chapter 8: a text taken up, by the document: small numbers, an instruction's parts.
-/
import Derived.Test.YtkocomnfomjfiaaSeatAC
namespace Go.Proofs.Ytkocomnfomjfiaa
open Go.Ot Go.RowKit
set_option linter.unusedSimpArgs false
set_option linter.unusedVariables false
theorem takeR_T {H0 H : Heap} (hX : Xt H0 H) {xr : Value} {l : List Nat} (hx0 : Bs H0 xr l) (hlt : ∀ c ∈ l, c < 256) (fail : Nat) :
    ∃ v H', T Try.prog 44 [dR xr fail] H v H' ∧ ∃ xr', v = .tuple #[dR xr' (rdP 1000 l fail).2.2, iv ((rdP 1000 l fail).1 : Int)] ∧ Bs H0 xr' (rdP 1000 l fail).2.1 ∧ Same H H' [] := by
  refine T_by hm light44 ?_
  obtain ⟨H2, hN, X2, v2, r2⟩ := setR hX.wf xr (.int .i64 (fail : Int))
  have la2 := v2.loadA
  obtain ⟨v3, H3, T3, xr', rfl, b', s3⟩ := uintR2_T (hX.trans X2) hx0 hlt fail
  have hlt3 := uS_lt l fail hlt
  unfold rdP
  obtain ⟨u, hu⟩ : ∃ u, u = (uS l fail).1 := ⟨_, rfl⟩
  obtain ⟨fv, hfv⟩ : ∃ fv : Value, fv = .int .i64 ((uS l fail).2.2 : Int) := ⟨_, rfl⟩
  obtain ⟨l2, hl2⟩ : ∃ l2, l2 = (uS l fail).2.1 := ⟨_, rfl⟩
  simp only [dR]
  simp only [dR] at T3
  rw [← hu, ← hfv] at T3 ⊢
  rw [← hl2] at b' ⊢
  rw [← hu] at hlt3
  obtain ⟨H4, sa, X4, v4, r4⟩ := aftR X2 v2 r2 T3 s3 xr' fv
  obtain ⟨H5, la, sb, lb, sm⟩ := finR X4 v4 r4
  by_cases h1 : 1000 < u
  · have e : min u 1000 = 1000 := by omega
    rw [e]
    simp [L44, hN, la2]
    refine goT_of T3 ?_
    simp [sa, h1, la, sb, lb, show IntKind.i64.wrap 1000 = 1000 by decide]
    exact ⟨b', sm⟩
  · have e : min u 1000 = u := by omega
    have e3 : IntKind.i64.wrap (u : Int) = (u : Int) := w64 _ (by omega)
    rw [e]
    simp [L44, hN, la2]
    refine goT_of T3 ?_
    simp [sa, h1, e3, la, sb, lb]
    exact ⟨b', sm⟩
/-- A letter's part, taken up. -/
def setL (c : Nat) : In → Int → In := if c = 111 ∨ c = 112 then setOp else if c = 97 then setA else if c = 98 then setB else setC
def letS (M : Nat) (s : St) (c : Nat) : St := if c = 107 ∨ c = 116 then stK true s else stU M true (setL c) s
theorem lets_parts (M : Nat) {k : Int} (hv : valid k = true) (s : St) : (lets k).foldl (letS M) s = partsS M (shp k) s := by
  rcases kinds hv with rfl | rfl | rfl | rfl | rfl | rfl | rfl | rfl | rfl | rfl | rfl | rfl | rfl <;> rfl
structure OI (H0 H G : Heap) (s : St) (xr : Value) (z : List Value) (c d : Value) : Prop where
  X : Xt H G
  v : Two G H.next xr (.int .i64 (s.2.2 : Int))
  x : Vr G (H.next + 1) 25 6 (rowI s.1)
  r : Two G (H.next + 2) c d
  y : Vr G (H.next + 3) 25 6 z
  bs : Bs H0 xr s.2.1
theorem OI.lt {H0 H G : Heap} {s : St} {xr : Value} {z : List Value} {c d : Value} (h : OI H0 H G s xr z c d) : H.next + 3 < G.next := h.X.wf.lt h.y.bq
theorem OI.take {H0 H G G' : Heap} {s : St} {xr : Value} {z : List Value} {c d : Value} (h : OI H0 H G s xr z c d) {g : FuncId} {args : List Value} {v : Value} (hT : T Try.prog g args G v G') (hs : Same G G' []) (x' : Value) (l' : List Nat) (f' : Nat) (hb : Bs H0 x' l') :
    ∃ G2, sStore G' 2 (ptr H.next) (.agg #[x', .int .i64 (f' : Int)]) = some G2 ∧ ∀ (j : Nat) (v : Value) (x2 : In), j < 6 → (rowI s.1).set j v = rowI x2 → ∃ G3, G2.store ⟨H.next + 1, j, none⟩ v = some G3 ∧ OI H0 H G3 (x2, l', f') x' z c d := by
  have hlt := h.lt
  have v3 := h.v.keep hT.1 (hs _ (by omega) (by simp))
  have x3 := h.x.keep hT.1 (hs _ (by omega) (by simp))
  have r3 := h.r.keep hT.1 (hs _ (by omega) (by simp))
  have y3 := h.y.keep hT.1 (hs _ (by omega) (by simp))
  have X3 := h.X.call hT hs
  refine ⟨_, v3.storeA _ _, fun j v x2 hj he => ?_⟩
  have x4 := x3.beside (r := H.next) (by omega) [x', .int .i64 (f' : Int)]
  refine ⟨_, x4.store j v (by simp [rowI]; omega), ?_⟩
  rw [he]
  exact ⟨(X3.put (Nat.le_refl _) _).put (Nat.le_succ _) _, (v3.put _ _).beside (by omega) _, x4.put _, (r3.beside (by omega) _).beside (by omega) _, (y3.beside (by omega) _).beside (by omega) _, hb⟩
theorem Vr.storeA {G : Heap} {q ty n : Nat} {cs : List Value} (h : Vr G q ty n cs) {m : Nat} (hm : 0 < m) (row : List Value) (hr : row.length = m) (hc : cs.length = m) : sStore G m (ptr q) (.agg row.toArray) = some (G.put q row) := by
  rw [sStore_agg _ _ _ _ hr hm, storeN_at h.hq h.bq (by simp; omega)]
  simp [hr]
  rw [List.drop_of_length_le (by omega), List.append_nil]
def InvOn (H0 H : Heap) (ps : ByteArray) (s0 : St) (z : List Value) (c d : Value) (k : Nat) (t : Tm) (G : Heap) : Prop :=
  ∃ (i : Nat) (s : St) (xr : Value), i + k = ps.size ∧ t 2 = ptr H.next ∧ t 3 = ptr (H.next + 1) ∧ t 4 = ptr (H.next + 2) ∧ t 5 = ptr (H.next + 3) ∧ t 6 = .string ps ∧ t 8 = iv i ∧ OI H0 H G s xr z c d ∧ (∀ c ∈ s.2.1, c < 256) ∧ s = ((ps.data.toList.map UInt8.toNat).take i).foldl (letS 1000) s0
theorem okC {k : Int} (hv : valid k = true) : ∀ c ∈ lets k, c = 111 ∨ c = 112 ∨ c = 97 ∨ c = 98 ∨ c = 99 ∨ c = 114 ∨ c = 107 ∨ c = 116 := by
  rcases kinds hv with rfl | rfl | rfl | rfl | rfl | rfl | rfl | rfl | rfl | rfl | rfl | rfl | rfl <;> decide
theorem oneR2_T {H0 H : Heap} (hX : Xt H0 H) {xr : Value} {l : List Nat} {f : Nat} {x : In} (hx0 : Bs H0 xr l) (hlt : ∀ c ∈ l, c < 256) (hv : valid x.kind = true) :
    ∃ v H', T Try.prog 45 [dR xr f, .agg (rowI x).toArray] H v H' ∧ ∃ xr', v = .tuple #[dR xr' (partsS 1000 (shp x.kind) (x, l, f)).2.2, .agg (rowI (partsS 1000 (shp x.kind) (x, l, f)).1).toArray] ∧ Bs H0 xr' (partsS 1000 (shp x.kind) (x, l, f)).2.1 ∧ Same H H' [] := by
  refine T_by hm light45 ?_
  have hw := hX.wf
  rw [← lets_parts 1000 hv]
  obtain ⟨zz0, hzz⟩ : ∃ z : List Value, z = [.int .i64 0, .int .i64 0, .int .i64 0, .int .i64 0, .int .i64 0, .int .i64 0] := ⟨_, rfl⟩
  obtain ⟨H1, hH1⟩ : ∃ H1, H1 = (((H.new 80 2 [xr, .int .i64 (f : Int)]).new 25 6 (rowI x)).new 80 2 [.slice none 0 0, .int .i64 0]).new 25 6 zz0 := ⟨_, rfl⟩
  have w1 := WF_new hw 80 2 [xr, .int .i64 (f : Int)]
  have w2 := WF_new w1 25 6 (rowI x)
  have w3 := WF_new w2 80 2 [.slice none 0 0, .int .i64 0]
  have O1 : OI H0 H H1 (x, l, f) xr zz0 (.slice none 0 0) (.int .i64 0) := by
    rw [hH1]
    refine ⟨((((Xt.refl hw).new _ _ _).new _ _ _).new _ _ _).new _ _ _, (((Two.mk' hw _ _).new w1 _ _ _).new w2 _ _ _).new w3 _ _ _, ?_, ?_, ?_, hx0⟩
    · exact ((Vr.mk' w1 25 6 (rowI x)).new w2 _ _ _).new w3 _ _ _
    · exact (Two.mk' w2 _ _).new w3 _ _ _
    · exact Vr.mk' w3 25 6 zz0
  have lk : H1.load ⟨H.next + 1, 0, none⟩ = some (iv x.kind) := O1.x.load 0
  obtain ⟨v3, H3, T3, rfl, s3⟩ := parts_T O1.X.wf x.kind (by
    have : 1 ≤ x.kind ∧ x.kind ≤ 13 := by simpa [valid] using hv
    unfold okI; omega)
  have O3 : OI H0 H H3 (x, l, f) xr zz0 (.slice none 0 0) (.int .i64 0) := by
    have hlt' := O1.lt
    exact ⟨O1.X.call T3 s3, O1.v.keep T3.1 (s3 _ (by omega) (by simp)), O1.x.keep T3.1 (s3 _ (by omega) (by simp)), O1.r.keep T3.1 (s3 _ (by omega) (by simp)), O1.y.keep T3.1 (s3 _ (by omega) (by simp)), O1.bs⟩
  have hcs := okC hv
  have hps2 := parts_sz2 x.kind
  rw [show lets x.kind = (parts x.kind).data.toList.map UInt8.toNat from rfl] at hcs ⊢
  obtain ⟨ps, hps⟩ : ∃ ps, ps = parts x.kind := ⟨_, rfl⟩
  rw [← hps] at T3 hcs hps2 ⊢
  have hsz : ps.size = (ps.data.toList.map UInt8.toNat).length := by rw [List.length_map, Array.length_toList]; rfl
  have hN : (((H.new 80 2 [xr, .int .i64 (f : Int)]).new 25 6 (rowI x)).new 80 2 [.slice none 0 0, .int .i64 0]).new 25 6 [.int .i64 0, .int .i64 0, .int .i64 0, .int .i64 0, .int .i64 0, .int .i64 0] = H1 := by rw [hH1, hzz]
  obtain ⟨want, hwant⟩ : ∃ want, want = (ps.data.toList.map UInt8.toNat).foldl (letS 1000) (x, l, f) := ⟨_, rfl⟩
  rw [← hwant]
  simp [L45, hN, lk]
  refine ⟨rfl, goT_of T3 ?_⟩
  simp
  refine loop_at (InvOn H0 H ps (x, l, f) zz0 (.slice none 0 0) (.int .i64 0)) ps.size ?_ ?_
  · exact ⟨0, (x, l, f), xr, by omega, by simp, by simp, by simp, by simp, by simp, by simp, O3, hlt, by simp⟩
  · rintro k t G ⟨i, s, xr', hik, t2, t3, t4, t5, t6, t8, O, hls, hs⟩
    have hltG := O.lt
    have la := O.v.loadA
    cases k with
    | zero =>
      have ei : i = ps.size := by omega
      subst ei
      rw [hsz, List.take_length] at hs
      rw [← hs] at hwant
      subst hwant
      have lx := O.x.loadA (m := 6) rfl
      have sr := O.r.storeA xr' (.int .i64 (want.2.2 : Int))
      have x2 := O.x.beside (r := H.next + 2) (by omega) [xr', .int .i64 (want.2.2 : Int)]
      have lx2 := x2.loadA (m := 6) rfl
      have y2 := O.y.beside (r := H.next + 2) (by omega) [xr', .int .i64 (want.2.2 : Int)]
      have sy := y2.storeA (m := 6) (by decide) (rowI want.1) rfl (by rw [hzz]; rfl)
      have r4 := (O.r.put xr' (.int .i64 (want.2.2 : Int))).beside (q := H.next + 3) (by omega) (rowI want.1)
      have lr4 := r4.loadA
      have y4 := y2.put (rowI want.1)
      have ly4 := y4.loadA (m := 6) rfl
      have sm : Same H ((G.put (H.next + 2) [xr', .int .i64 (want.2.2 : Int)]).put (H.next + 3) (rowI want.1)) [] := ((O.X.put (by omega) _).put (by omega) _).same
      obtain ⟨G2, hG2⟩ : ∃ G2, G2 = G.put (H.next + 2) [xr', .int .i64 (want.2.2 : Int)] := ⟨_, rfl⟩
      rw [← hG2] at sr lx2 sy lr4 ly4 sm
      simp [L45_1, t2, t3, t4, t5, t6, t8, la, lx, sr, lx2, sy, lr4, ly4]
      exact ⟨O.bs, sm⟩
    | succ k =>
      have hi : i < ps.size := by omega
      have e3 : IntKind.i64.wrap ((i : Int) + 1) = ((i + 1 : Nat) : Int) := by rw [w64 _ (by omega)]; omega
      obtain ⟨i1, hi1⟩ : ∃ i1, i1 = i + 1 := ⟨_, rfl⟩
      rw [← hi1] at e3
      have hil : i < (ps.data.toList.map UInt8.toNat).length := by omega
      obtain ⟨c, hc⟩ : ∃ c : Nat, c = (ps.data.toList.map UInt8.toNat)[i] := ⟨_, rfl⟩
      have ix : sIdxStr (.string ps) (iv i) = some (.int .u8 (c : Int)) := by
        simp only [sIdxStr]
        rw [dif_pos ⟨by omega, by simpa using hi⟩, hc]
        simp
        rfl
      have hcl := hcs c (by rw [hc]; exact List.getElem_mem hil)
      have en : letS 1000 s c = ((ps.data.toList.map UInt8.toNat).take i1).foldl (letS 1000) (x, l, f) := by
        rw [hi1, List.take_succ_eq_append_getElem hil, List.foldl_append, ← hs, ← hc]; rfl
      obtain ⟨sx, sl', sf⟩ := s
      simp only at la hls
      have fin : ∀ (t' : Tm) (G' : Heap) (xr2 : Value), OI H0 H G' (letS 1000 (sx, sl', sf) c) xr2 zz0 (.slice none 0 0) (.int .i64 0) → (∀ c' ∈ (letS 1000 (sx, sl', sf) c).2.1, c' < 256) → t' 2 = ptr H.next → t' 3 = ptr (H.next + 1) → t' 4 = ptr (H.next + 2) → t' 5 = ptr (H.next + 3) → t' 6 = .string ps → t' 8 = iv i1 →
          ∃ m, m < k + 1 ∧ InvOn H0 H ps (x, l, f) zz0 (.slice none 0 0) (.int .i64 0) m t' G' :=
        fun t' G' xr2 o h1 h2 h3 h4 h5 h6 h8 => ⟨k, Nat.lt_succ_self k, i1, _, xr2, by omega, h2, h3, h4, h5, h6, h8, o, h1, en⟩
      by_cases hk : c = 107 ∨ c = 116
      · obtain ⟨v5, G5, T5, x5, rfl, b5, s5⟩ := intR2_T (hX.trans O.X) O.bs hls sf
        have hst : letS 1000 (sx, sl', sf) c = ({ sx with k := (iS sl' sf).1 }, (iS sl' sf).2) := by unfold letS; rw [if_pos hk]; rfl
        rw [hst] at fin
        obtain ⟨G6, st6, f6⟩ := O.take T5 s5 x5 (iS sl' sf).2.1 (iS sl' sf).2.2 b5
        obtain ⟨G7, st7, O7⟩ := f6 5 (iv (iS sl' sf).1) { sx with k := (iS sl' sf).1 } (by decide) rfl
        have hls7 : ∀ c' ∈ (iS sl' sf).2.1, c' < 256 := fun c' hc' => hls c' ((uS_suf sl' sf).mem hc')
        have F := fun t' => fin t' G7 x5 O7 hls7
        obtain ⟨v, hv'⟩ : ∃ v, v = (iS sl' sf).1 := ⟨_, rfl⟩
        simp only [dR] at T5
        rw [← hv'] at T5 st7
        rcases hk with rfl | rfl <;>
        · simp [L45_1, t6, t8, hi, ix, t2, la]
          refine goT_of T5 ?_
          simp [t2, t3, st6, st7, t8, e3]
          exact F _ (by simp [t2]) (by simp [t3]) (by simp [t4]) (by simp [t5]) (by simp [t6]) (by simp)
      · obtain ⟨v5, G5, T5, x5, rfl, b5, s5⟩ := takeR_T (hX.trans O.X) O.bs hls sf
        have hst : letS 1000 (sx, sl', sf) c = (setL c sx ((rdP 1000 sl' sf).1 : Int), (rdP 1000 sl' sf).2) := by unfold letS; rw [if_neg hk]; rfl
        rw [hst] at fin
        obtain ⟨G6, st6, f6⟩ := O.take T5 s5 x5 (rdP 1000 sl' sf).2.1 (rdP 1000 sl' sf).2.2 b5
        have hls7 : ∀ c' ∈ (rdP 1000 sl' sf).2.1, c' < 256 := fun c' hc' => hls c' ((rdP_suf 1000 sl' sf).mem hc')
        have F := fun t' G7 O7 => fin t' G7 x5 O7 hls7
        obtain ⟨v, hv'⟩ : ∃ v : Int, v = ((rdP 1000 sl' sf).1 : Int) := ⟨_, rfl⟩
        simp only [dR] at T5
        rw [← hv'] at T5 F
        have hc8 : c = 111 ∨ c = 112 ∨ c = 97 ∨ c = 98 ∨ c = 99 ∨ c = 114 := by omega
        rcases hc8 with rfl | rfl | rfl | rfl | rfl | rfl
        · obtain ⟨G7, st7, O7⟩ := f6 1 (iv v) (setL 111 sx v) (by decide) rfl
          simp [L45_1, t6, t8, hi, ix, t2, la]
          refine goT_of T5 ?_
          simp [t2, t3, st6, t6, t8, hi, ix, st7, e3]
          exact F _ G7 O7 (by simp [t2]) (by simp [t3]) (by simp [t4]) (by simp [t5]) (by simp [t6]) (by simp)
        · obtain ⟨G7, st7, O7⟩ := f6 1 (iv v) (setL 112 sx v) (by decide) rfl
          simp [L45_1, t6, t8, hi, ix, t2, la]
          refine goT_of T5 ?_
          simp [t2, t3, st6, t6, t8, hi, ix, st7, e3]
          exact F _ G7 O7 (by simp [t2]) (by simp [t3]) (by simp [t4]) (by simp [t5]) (by simp [t6]) (by simp)
        · obtain ⟨G7, st7, O7⟩ := f6 2 (iv v) (setL 97 sx v) (by decide) rfl
          simp [L45_1, t6, t8, hi, ix, t2, la]
          refine goT_of T5 ?_
          simp [t2, t3, st6, t6, t8, hi, ix, st7, e3]
          exact F _ G7 O7 (by simp [t2]) (by simp [t3]) (by simp [t4]) (by simp [t5]) (by simp [t6]) (by simp)
        · obtain ⟨G7, st7, O7⟩ := f6 3 (iv v) (setL 98 sx v) (by decide) rfl
          simp [L45_1, t6, t8, hi, ix, t2, la]
          refine goT_of T5 ?_
          simp [t2, t3, st6, t6, t8, hi, ix, st7, e3]
          exact F _ G7 O7 (by simp [t2]) (by simp [t3]) (by simp [t4]) (by simp [t5]) (by simp [t6]) (by simp)
        · obtain ⟨G7, st7, O7⟩ := f6 4 (iv v) (setL 99 sx v) (by decide) rfl
          simp [L45_1, t6, t8, hi, ix, t2, la]
          refine goT_of T5 ?_
          simp [t2, t3, st6, t6, t8, hi, ix, st7, e3]
          exact F _ G7 O7 (by simp [t2]) (by simp [t3]) (by simp [t4]) (by simp [t5]) (by simp [t6]) (by simp)
        · obtain ⟨G7, st7, O7⟩ := f6 4 (iv v) (setL 114 sx v) (by decide) rfl
          simp [L45_1, t6, t8, hi, ix, t2, la]
          refine goT_of T5 ?_
          simp [t2, t3, st6, t6, t8, hi, ix, st7, e3]
          exact F _ G7 O7 (by simp [t2]) (by simp [t3]) (by simp [t4]) (by simp [t5]) (by simp [t6]) (by simp)
end Go.Proofs.Ytkocomnfomjfiaa
