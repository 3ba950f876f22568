/-
  Chapter 27: a trace's text, by the program.
-/
import Derived.Test.YtjkfghekdcalhaaSeatO
namespace Go.Proofs.Ytjkfghekdcalhaa
open Go.Ot
set_option linter.unusedSimpArgs false
set_option linter.unusedVariables false
theorem bytesV_strB (l : List Nat) (h : ∀ d ∈ l, d < 256) : bytesV (strB l) = l.map bv := by
  simp only [bytesV, strB, strOfNums]
  simp [List.map_map, Function.comp_def]
  intro d hd
  have := h d hd
  omega
theorem src_strB (H : Heap) (l : List Nat) (h : ∀ d ∈ l, d < 256) : srcCells H 1 (.string (strB l)) = some (l.length, l.map bv) := by
  rw [srcCells_string, strB_size, bytesV_strB l h]
/-- A row of bytes of one's own. -/
def Out (H : Heap) (x : Value) (out : List Nat) : Prop := Own H 5 1 out.length (out.map bv) x
structure AppR (H H' : Heap) (x : Value) (out : List Nat) (x' : Value) : Prop where
  own : Out H' x' out
  wf : H'.WF
  base : H'.base = H.base
  next : H'.next = H.next + 1
  new : blkOf x' = some H.next
  keep : ∀ b, b < H.next → blkOf x ≠ some b → H'.blk b = H.blk b
theorem app_out {H : Heap} (hw : H.WF) {x y : Value} {out l : List Nat} (h : Out H x out) (hs : srcCells H 1 y = some (l.length, l.map bv)) (hl : l ≠ []) (hb : out.length + l.length ≤ 140737488355328) :
    ∃ HA x', sAppend H 5 1 1 x y = some (x', HA) ∧ AppR H HA x (out ++ l) x' := by
  have hnB := hw.next_ge
  refine ⟨_, _, append_any h hs (by simpa using hl) (by omega), ?_, ?_, ?_, ?_, ?_, ?_⟩
  · have := Own.mk (H := (H.drop x).new 5 1 (out.map bv ++ l.map bv)) (ety := 5) (sz := 1) (n := out.length + l.length) (b := H.next) (cells := out.map bv ++ l.map bv) (by simp) (by simp; omega) (by simp)
    unfold Out
    simpa using this
  · exact WF_new (WF_drop hw _) _ _ _
  · simp
  · simp
  · rfl
  · intro b hb hx
    have : b ≠ H.next := by omega
    simp [this, blk_drop, hx]
theorem app_one {H : Heap} (hw : H.WF) {x : Value} {out : List Nat} (h : Out H x out) (d : Nat) (hb : out.length < 100000000000000) :
    ∃ HA x', sAppend (H.new 5 1 [bv d]) 5 1 1 x (.slice (some ⟨H.next, 0, none⟩) 1 0) = some (x', HA) ∧ AppR (H.new 5 1 [bv d]) HA x (out ++ [d]) x' := by
  have hnB := hw.next_ge
  exact app_out (WF_new hw _ _ _) (Own.new hw h _ _ _) (src_one (ety := 5) (by simpa using hnB) (by simp)) (by simp) (by simp; omega)
theorem out_str {H : Heap} {x : Value} {out : List Nat} (h : Out H x out) : sToStr H x = some (.string (strB out)) := by
  rcases h.2 with ⟨rfl, h1⟩ | ⟨b, rest, rfl, hB, hk⟩
  · have : out = [] := by simpa using h1
    subst this
    rfl
  · have hl : H.loadN ⟨b, 0, none⟩ 0 out.length = some (out.map bv) := by
      rw [loadN_at hB hk (by simp)]
      simp
    simp only [sToStr, hl, Option.bind_some, byteNums_bv, Option.map_some]
    rfl
/-- From the heap `H` on: what was there stands, and the row of bytes is a new one. -/
structure Grow (H H1 : Heap) (x : Value) (out : List Nat) : Prop where
  own : Out H1 x out
  wf : H1.WF
  base : H1.base = H.base
  next : H.next ≤ H1.next
  new : ∀ b, blkOf x = some b → H.next ≤ b
  keep : ∀ b, b < H.next → H1.blk b = H.blk b
theorem Grow.then {H H1 H2 : Heap} {x x2 : Value} {out out2 : List Nat} (h : Grow H H1 x out) (ty sz : Nat) (cs : List Value) (a : AppR (H1.new ty sz cs) H2 x out2 x2) : Grow H H2 x2 out2 where
  own := a.own
  wf := a.wf
  base := by rw [a.base, ← h.base]; simp
  next := by have := a.next; have := h.next; simp at *; omega
  new := by
    intro b hb
    rw [a.new] at hb
    have := h.next
    simp at hb; omega
  keep := by
    intro b hb
    have h1 := h.next
    rw [a.keep b (by simp; omega) (fun hx => by have := h.new b hx; omega), ← h.keep b hb]
    have : b ≠ H1.next := by omega
    simp [this]
theorem Grow.then0 {H H1 H2 : Heap} {x x2 : Value} {out out2 : List Nat} (h : Grow H H1 x out) (a : AppR H1 H2 x out2 x2) : Grow H H2 x2 out2 where
  own := a.own
  wf := a.wf
  base := by rw [a.base, ← h.base]
  next := by have := a.next; have := h.next; omega
  new := by
    intro b hb
    rw [a.new] at hb
    have := h.next
    simp at hb; omega
  keep := by
    intro b hb
    have h1 := h.next
    rw [a.keep b (by omega) (fun hx => by have := h.new b hx; omega), ← h.keep b hb]
theorem decI_ne (n : Int) : decI n ≠ [] := by
  unfold decI decN decF
  split <;> simp
theorem decI_byte (n : Int) : ∀ d ∈ decI n, d < 256 := by
  have h := decF_byte 20 n.natAbs
  unfold decI decN
  intro d hd
  split at hd
  · simp only [List.mem_cons] at hd
    rcases hd with rfl | hd
    · omega
    · have := h d hd; omega
  · have := h d hd; omega
def numsB (l : List Int) : List Nat := l.flatMap fun n => 32 :: decI n
theorem numsB_take (l : List Int) (i : Nat) (hi : i < l.length) : numsB (l.take (i + 1)) = numsB (l.take i) ++ (32 :: decI l[i]) := by
  unfold numsB
  rw [List.take_add_one, List.getElem?_eq_getElem hi, List.flatMap_append]
  simp
/-- The loop over an event's numbers. -/
def InvN (H : Heap) (t0 : Tm) (y : Value) (l : List Int) (out : List Nat) (k : Nat) (t : Tm) (H1 : Heap) : Prop :=
  ∃ i x, i + k = l.length ∧ t 0 = t0 0 ∧ t 10 = t0 10 ∧ t 11 = t0 11 ∧ t 12 = t0 12 ∧ t 24 = y ∧ t 25 = iv l.length ∧ t 26 = iv i ∧ t 3 = x ∧ Grow H H1 x (out ++ numsB (l.take i)) ∧ Ints H1 .i64 y l ∧ ∀ b, blkOf y = some b → b < H1.next ∧ blkOf x ≠ some b
theorem nums_loop {H H1 : Heap} (hw : H.WF) {x y : Value} {l : List Int} {out : List Nat} (hy : Ints H1 .i64 y l) (hyb : ∀ b, blkOf y = some b → b < H1.next ∧ blkOf x ≠ some b) (hg : Grow H H1 x out) (hl : l.length ≤ 4) (hf : ∀ n ∈ l, fit n) (hout : out.length ≤ 1000000)
    {Q : Exit → Tm → Heap → Prop} {t : Tm} (h3 : t 3 = x) (h24 : t 24 = y) (h25 : t 25 = iv l.length) (h26 : t 26 = iv 0)
    (hQ : ∀ t1 x1 H2, t1 0 = t 0 → t1 10 = t 10 → t1 11 = t 11 → t1 12 = t 12 → t1 3 = x1 → Grow H H2 x1 (out ++ numsB l) → Q (.exit 2) t1 (rdy H2)) : wpA Try.prog (.loop L14_1) Q t (rdy H1) := by
  refine loop_at (InvN H t y l out) l.length ?_ ?_
  · exact ⟨0, x, by omega, rfl, rfl, rfl, rfl, h24, h25, h26, h3, by simpa [numsB] using hg, hy, hyb⟩
  · rintro k t1 H2 ⟨i, x1, hi, t10, t110, t111, t112, t124, t125, t126, t13, g, hyk, hyn⟩
    cases k with
    | zero =>
      have e : ¬ ((i : Int) < l.length) := by omega
      have e2 : i = l.length := by omega
      rw [e2, List.take_length] at g
      have hq := fun (t9 : Tm) (h0 : t9 0 = t1 0) (h10 : t9 10 = t1 10) (h11 : t9 11 = t1 11) (h12 : t9 12 = t1 12) (h3 : t9 3 = t1 3) => hQ t9 x1 H2 (h0.trans t10) (h10.trans t110) (h11.trans t111) (h12.trans t112) (h3.trans t13) g
      simp [L14_1, t125, t126, e]
      exact hq _ (by simp) (by simp) (by simp) (by simp) (by simp)
    | succ j =>
      have hil : i < l.length := by omega
      have e : ((i : Int) < l.length) := by omega
      obtain ⟨b, off, c, rfl, hld⟩ := hyk.at hil
      have hz : zerosA [Value.int .u8 0] 1 = [.int .u8 0] := rfl
      have hgl := flat_len (l.take i)
      have hgl2 : (l.take i).length ≤ 4 := by simp; omega
      obtain ⟨HA, x2, ha, aR⟩ := app_one g.wf g.own 32 (by simp only [List.length_append, numsB]; omega)
      have g2 := g.then _ _ _ aR
      have hfit := hf l[i] (List.getElem_mem hil)
      have tx := textK g2.wf hfit
      have hdl := decI_len l[i]
      obtain ⟨HB, x3, hb, bR⟩ := app_out (l := decI l[i]) g2.wf g2.own (src_strB HA _ (decI_byte _)) (decI_ne _) (by simp only [List.length_append, numsB, List.length_singleton]; omega)
      have g3 := g2.then0 bR
      have e4 : IntKind.i64.wrap ((i : Int) + 1) = ((i + 1 : Nat) : Int) := by rw [w64 _ (by omega)]; omega
      have hyA := hyn b rfl
      have kA : HA.blk b = H2.blk b := by
        rw [aR.keep b (by simp; omega) hyA.2]
        have : b ≠ H2.next := by omega
        simp [this]
      have kB : HB.blk b = HA.blk b := bR.keep b (by have := aR.next; simp at this; omega) (by rw [aR.new]; simp; omega)
      have yB := hyk.frame (H' := HB) (by rw [bR.base, aR.base]; simp) (fun b' hb' => by simp at hb'; subst hb'; rw [kB, kA])
      have nB : ∀ b', blkOf (Value.slice (some ⟨b, off, none⟩) l.length c) = some b' → b' < HB.next ∧ blkOf x3 ≠ some b' := by
        intro b' hb'
        simp at hb'
        subst hb'
        have n1 := aR.next
        have n2 := bR.next
        rw [bR.new]
        simp at n1
        exact ⟨by omega, by simp; omega⟩
      have hout3 : out ++ numsB (List.take i l) ++ [32] ++ decI l[i] = out ++ numsB (l.take (i + 1)) := by
        rw [numsB_take l i hil]; simp
      rw [hout3] at g3
      simp only [bv] at ha
      have ha' : sAppend (H2.new 5 1 [Value.int .u8 32]) 5 1 1 x1 (.slice (some ⟨H2.next, 0, none⟩) 1 0) = some (x2, HA) := ha
      obtain ⟨iN, hiN⟩ : ∃ n : Nat, n = i + 1 := ⟨_, rfl⟩
      rw [← hiN] at e4 g3
      simp [L14_1, t125, t126, e, t124, hld, hz, t13, ha']
      refine goT_of tx ?_
      simp [hb, t126, e4]
      exact ⟨j, by omega, iN, x3, by omega, by simp [t10], by simp [t110], by simp [t111], by simp [t112], by simp [t124], by simp [t125], by simp, by simp, g3, yB, nB⟩
theorem Grow.on {H H1 H2 : Heap} {x : Value} {out : List Nat} (h : Grow H H1 x out) (hw : H2.WF) (hb : H2.base = H1.base) (hn : H1.next ≤ H2.next) (hk : ∀ b, b < H1.next → H2.blk b = H1.blk b) : Grow H H2 x out where
  own := h.own.keep (B_eq hb) (fun b hx => hk b (h.own.lt h.wf hx))
  wf := hw
  base := hb.trans h.base
  next := Nat.le_trans h.next hn
  new := h.new
  keep := fun b hb' => (hk b (Nat.lt_of_lt_of_le hb' h.next)).trans (h.keep b hb')
def evB (l : List Ev) : List Nat := l.flatMap lineB
theorem evB_take (l : List Ev) (i : Nat) (hi : i < l.length) : evB (l.take (i + 1)) = evB (l.take i) ++ lineB l[i] := by
  unfold evB
  rw [List.take_add_one, List.getElem?_eq_getElem hi, List.flatMap_append]
  simp
theorem evB_len : ∀ l : List Ev, (evB l).length ≤ 100 * l.length
  | [] => by simp [evB]
  | x :: l => by
    have := evB_len l
    have := lineB_len x
    simp only [evB, List.flatMap_cons, List.length_append, List.length_cons] at *
    omega
theorem nameB_byte (k : Int) : ∀ d ∈ nameB k, d < 256 := by
  unfold nameB
  repeat' split
  all_goals decide
theorem nums_fit {x : Ev} (h : x.ok) : ∀ n ∈ numsOf x, fit n := by
  obtain ⟨hk, ha, hb, hc, hd, he⟩ := h
  unfold numsOf
  intro n hn
  repeat' split at hn
  all_goals (simp only [List.mem_cons, List.not_mem_nil, or_false] at hn)
  all_goals (first | (exfalso; exact hn) | (rcases hn with rfl | rfl | rfl | rfl <;> assumption) | (rcases hn with rfl | rfl | rfl <;> assumption) | (rcases hn with rfl | rfl <;> assumption) | (subst hn; assumption))
def InvE (H : Heap) (y : Value) (l : List Ev) (k : Nat) (t : Tm) (H1 : Heap) : Prop :=
  ∃ i x, i + k = l.length ∧ t 10 = y ∧ t 11 = iv l.length ∧ t 12 = iv i ∧ t 3 = x ∧ Grow H H1 x (evB (l.take i))
theorem text14_T {H : Heap} (hw : H.WF) {y : Value} {l : List Ev} (hy : Rws H 6 y (l.map Ev.cells)) (hl : l.length ≤ 300) (hok : ∀ x ∈ l, x.ok) : T Try.prog 14 [y] H (.string (strB (evB l))) H := by
  have : ∃ v H', T Try.prog 14 [y] H v H' ∧ v = .string (strB (evB l)) ∧ ∀ b, b < H.next → H'.blk b = H.blk b := by
    refine T_by hm light14 ?_
    obtain ⟨a, c, hyl⟩ := hy.len
    rw [List.length_map] at hyl
    simp [L14, hyl]
    rw [← hyl]
    refine loop_at (InvE H y l) l.length ?_ ?_
    · exact ⟨0, .slice none 0 0, by omega, by simp, by simp, by simp, by simp, Own.nil _ _ _, hw, rfl, Nat.le_refl _, fun b hb => (by cases hb), fun _ _ => rfl⟩
    · rintro k t H1 ⟨i, x, hi, t10, t11, t12, t3, g⟩
      cases k with
      | zero =>
        have e : ¬ ((i : Int) < l.length) := by omega
        have e2 : i = l.length := by omega
        rw [e2, List.take_length] at g
        have hs := out_str g.own
        simp [L14_2, t10, t11, t12, t3, e, hs]
        exact g.keep
      | succ j =>
        have hil : i < l.length := by omega
        have e : ((i : Int) < l.length) := by omega
        have hy2 := hy.keep hw g.base g.keep
        obtain ⟨b, off, c2, hyb, hlen, hld, -⟩ := hy2.at (i := i) (by simpa using hil)
        rw [List.getElem_map] at hlen hld
        obtain ⟨x9, hx9⟩ : ∃ x9, x9 = l[i] := ⟨_, rfl⟩
        rw [← hx9] at hlen hld
        have hxo : x9.ok := by rw [hx9]; exact hok _ (List.getElem_mem hil)
        obtain ⟨HE, hHE⟩ : ∃ HE, HE = H1.new 58 6 x9.cells := ⟨_, rfl⟩
        have hstA := new_storeA g.wf 58 6 [iv 0, iv 0, iv 0, iv 0, iv 0, iv 0] x9.cells rfl hlen (by decide)
        have hldA : HE.loadN ⟨H1.next, 0, none⟩ 0 6 = some x9.cells := by rw [hHE]; exact new_loadA g.wf 58 6 x9.cells hlen
        rw [← hHE] at hstA
        have hwE : HE.WF := by rw [hHE]; exact WF_new g.wf _ _ _
        obtain ⟨v, HF, hT, hV⟩ := said_T hwE x9
        subst hyb
        simp [L14_2, t10, t11, t12, e, hld, hstA, hldA]
        refine goT_of hT ?_
        obtain ⟨y9, rfl, hy9, hwF, hbF, hnF, hkF, hyF⟩ := hV
        have hnE : HE.next = H1.next + 1 := by rw [hHE]; simp
        have gF := g.on hwF (by rw [hbF, hHE]; simp) (by omega) (fun b hb => by
          have : b ≠ H1.next := by omega
          rw [hkF b (by omega), hHE]
          simp [this])
        have hel := evB_len (l.take i)
        have hel2 : (l.take i).length ≤ 300 := by simp; omega
        have hnl := nameB_len x9.k
        obtain ⟨HG, x2, ha, aR⟩ := app_out (l := nameB x9.k) gF.wf gF.own (src_strB HF _ (nameB_byte _)) (by intro h0; rw [h0] at hnl; simp at hnl) (by omega)
        have gG := gF.then0 aR
        obtain ⟨a9, c9, hy9l⟩ : ∃ a c, y9 = .slice a (numsOf x9).length c := hy9.len
        have hbx : ∀ b, blkOf y9 = some b → blkOf x ≠ some b := by
          intro b hb hx
          have h1 := g.own.lt g.wf hx
          have h2 := (hyF b hb).1
          omega
        have yG := hy9.frame (H' := HG) aR.base (fun b hb => aR.keep b (hyF b hb).2 (hbx b hb))
        have nG : ∀ b, blkOf y9 = some b → b < HG.next ∧ blkOf x2 ≠ some b := by
          intro b hb
          have n1 := aR.next
          have h2 := (hyF b hb).2
          rw [aR.new]
          exact ⟨by omega, by simp; omega⟩
        have hnums := numsOf_len x9
        simp [ha, t3]
        simp [hy9l]
        rw [← hy9l]
        refine nums_loop hw yG nG gG hnums (nums_fit hxo) (by simp; omega) (by simp) (by simp) (by simp) (by simp) ?_
        intro t1 x3 H3 u0 u10 u11 u12 u3 g3
        have hfl := flat_len (numsOf x9)
        obtain ⟨HK, x4, hk4, kR⟩ := app_one g3.wf g3.own 10 (by simp only [List.length_append, numsB]; omega)
        have g4 := g3.then _ _ _ kR
        simp at u10 u11 u12
        have hz : zerosA [Value.int .u8 0] 1 = [.int .u8 0] := rfl
        simp only [bv] at hk4
        have hk4' : sAppend (H3.new 5 1 [Value.int .u8 10]) 5 1 1 x3 (.slice (some ⟨H3.next, 0, none⟩) 1 0) = some (x4, HK) := hk4
        have e4 : IntKind.i64.wrap ((i : Int) + 1) = ((i + 1 : Nat) : Int) := by rw [w64 _ (by omega)]; omega
        have hev : evB (l.take i) ++ nameB x9.k ++ numsB (numsOf x9) ++ [10] = evB (l.take (i + 1)) := by
          rw [evB_take l i hil, ← hx9]; simp [lineB, numsB]
        rw [hev] at g4
        obtain ⟨iN, hiN⟩ : ∃ n : Nat, n = i + 1 := ⟨_, rfl⟩
        rw [← hiN] at e4 g4
        simp [hz, u3, hk4', u12, t12, e4]
        exact ⟨j, by omega, iN, x4, by omega, by simp [u10, t10], by simp [u11, t11], by simp, by simp, g4⟩
  obtain ⟨v, H', h, rfl, hk⟩ := this
  exact T_forget h hk rfl
end Go.Proofs.Ytjkfghekdcalhaa
