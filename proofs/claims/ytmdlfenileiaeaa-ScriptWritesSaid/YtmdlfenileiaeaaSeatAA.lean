/-
  Chapter 25: rows of bytes that grow; the program's Text.
-/
import Derived.Test.YtmdlfenileiaeaaSeatZ
namespace Go.Proofs.Ytmdlfenileiaeaa
open Go.Ot Go.RowKit
open Tx (decF decN decI strB strB_size byteNums_bv decI_len)
set_option linter.unusedSimpArgs false
set_option linter.unusedVariables false
abbrev Bo (H H1 : Heap) (b : List Nat) (x : Value) : Prop := Row H H1 5 1 b.length (b.map bv) x
theorem row_app {H H1 H1' : Heap} {ety sz bytes n m : Nat} {cells xs : List Value} {x y : Value} (h : Row H H1 ety sz n cells x) (o : On H1 H1') (hs : srcCells H1' sz y = some (m, xs)) (hx : xs.length = m * sz) (hm : m ≠ 0) (hb : (n + m) * bytes ≤ 140737488355328) :
    ∃ z H2, sAppend H1' ety sz bytes x y = some (z, H2) ∧ Row H H2 ety sz (n + m) (cells ++ xs) z := by
  obtain ⟨own, on, new⟩ := h
  have own2 := Own.on on.wf own o
  have on2 := on.trans o
  refine ⟨_, _, append_any own2 hs hm hb, ⟨?_, ?_, ?_⟩⟩
  · refine Own.mk (by rw [List.length_append, own.1, hx, Nat.add_mul]) ?_ (by simp)
    simpa using o.wf.next_ge
  · refine ⟨WF_new (WF_drop o.wf _) _ _ _, by simpa using on2.base, by have := on2.next; simp; omega, fun b hb => ?_⟩
    have := on2.next
    have h2 : blkOf x ≠ some b := fun hx => by have := new b hx; omega
    simp [show b ≠ H1'.next by omega, blk_drop, h2, on2.keep b hb]
  · intro b hb
    have : H1'.next = b := by simpa using hb
    have := on2.next
    omega
theorem bytesV_strB (l : List Nat) (h : ∀ d ∈ l, d < 256) : bytesV (strB l) = l.map bv := by
  simp only [bytesV, strB, strOfNums]
  simp [List.map_map, Function.comp_def]
  intro d hd
  have := h d hd
  omega
theorem bo_str {H H1 : Heap} {b l : List Nat} {x : Value} (h : Bo H H1 b x) (hl : l ≠ []) (h256 : ∀ d ∈ l, d < 256) (hb : b.length + l.length ≤ 140737488355328) :
    ∃ z H2, sAppend H1 5 1 1 x (.string (strB l)) = some (z, H2) ∧ Bo H H2 (b ++ l) z := by
  obtain ⟨z, H2, q1, q2⟩ := row_app (bytes := 1) h (On.refl h.on.wf) (y := .string (strB l)) (m := l.length) (xs := l.map bv) (by rw [srcCells_string, strB_size, bytesV_strB l h256]) (by simp) (by simpa using hl) (by omega)
  exact ⟨z, H2, q1, by simpa [Bo] using q2⟩
theorem bo_one {H H1 : Heap} {b : List Nat} {x : Value} (h : Bo H H1 b x) (d : Nat) (hb : b.length + 1 ≤ 140737488355328) :
    ∃ z H2, sAppend (H1.new 5 1 [bv d]) 5 1 1 x (.slice (some ⟨H1.next, 0, none⟩) 1 0) = some (z, H2) ∧ Bo H H2 (b ++ [d]) z := by
  have hnB := h.on.wf.next_ge
  obtain ⟨z, H2, q1, q2⟩ := row_app (bytes := 1) h ((On.refl h.on.wf).new 5 1 [bv d]) (y := .slice (some ⟨H1.next, 0, none⟩) 1 0) (m := 1) (xs := [bv d]) (src_one (ety := 5) (by simpa using hnB) (by simp)) (by simp) (by simp) (by omega)
  exact ⟨z, H2, q1, by simpa [Bo] using q2⟩
theorem bo_out {H H1 : Heap} {b : List Nat} {x : Value} (h : Bo H H1 b x) : sToStr H1 x = some (.string (strB b)) := by
  rcases h.own.2 with ⟨rfl, h1⟩ | ⟨q, rest, rfl, hB, hk⟩
  · have : b = [] := by simpa using h1
    subst this
    rfl
  · have hl : H1.loadN ⟨q, 0, none⟩ 0 b.length = some (b.map bv) := by
      rw [loadN_at hB hk (by simp)]
      simp
    simp only [sToStr, hl, Option.bind_some, byteNums_bv, Option.map_some]
    rfl
theorem dec_byte {u : Nat} (h : u < 2147483648) : ∀ d ∈ decN u, d < 256 := by
  intro d hd
  have := (decN_ok h).1 d hd
  simp only [isD, Bool.and_eq_true, decide_eq_true_eq] at this
  omega
theorem dec_len (u : Nat) : (decN u).length ≤ 20 := Tx.decF_len 20 u
theorem textN_T {H : Heap} (hw : H.WF) {n : Int} (h0 : 0 ≤ n) (h1 : n < 2147483648) : T Try.prog 28 [iv n] H (.string (strB (decN n.toNat))) H := by
  obtain ⟨H', hT, hk⟩ := Tx.text_T hw (n := n) (by omega)
  have e : decI n = decN n.toNat := by
    unfold decI
    rw [if_neg (by omega)]
    congr 1
    omega
  rw [e] at hT
  exact T_forget hT hk rfl
theorem refTextN_T {H : Heap} (hw : H.WF) {n : Int} (h0 : 0 ≤ n) (h1 : n < 2147483648) : T Try.prog 29 [iv n] H (.string (strB (decN n.toNat))) H := by
  obtain ⟨H', hT, hk⟩ := Tx.refText_T hw (n := n) (by omega)
  have e : decI n = decN n.toNat := by
    unfold decI
    rw [if_neg (by omega)]
    congr 1
    omega
  rw [e] at hT
  exact T_forget hT hk rfl
/-! ### a run of one entry -/
theorem txt_run {l : List Ent} {e : Ent} (he : ¬ badE e) (b : List Nat) : ∀ (n i j many : Nat), j - i = n → i < j → j ≤ l.length → (∀ m (h : m < l.length), i ≤ m → m < j → l[m] = e) → (∀ h : j < l.length, l[j] ≠ e) →
    txt (l.drop i) many b = txt (l.drop j) 0 (b ++ sep b ++ grpB e (many + (j - i)))
  | 0, i, j, many, hn, hij, _, _, _ => by omega
  | n + 1, i, j, many, hn, hij, hj, hall, hend => by
    have hi : i < l.length := by omega
    have hei : l[i] = e := hall i hi (Nat.le_refl _) hij
    rw [List.drop_eq_getElem_cons hi, hei, txt, if_neg he]
    by_cases h1 : i + 1 = j
    · have hhead : ¬ (l.drop (i + 1)).head? = some e := by
        rw [List.head?_drop, h1]
        intro h
        by_cases hjl : j < l.length
        · rw [List.getElem?_eq_getElem hjl] at h
          exact hend hjl (Option.some.inj h)
        · rw [List.getElem?_eq_none (by omega)] at h
          cases h
      rw [if_neg hhead, h1, show j - i = 1 by omega]
    · have hhead : (l.drop (i + 1)).head? = some e := by
        rw [List.head?_drop, List.getElem?_eq_getElem (by omega)]
        rw [hall (i + 1) (by omega) (by omega) (by omega)]
      rw [if_pos hhead, txt_run he b n (i + 1) j (many + 1) (by omega) (by omega) hj (fun m h h1 h2 => hall m h (by omega) h2) hend]
      congr 3
      omega
theorem txt_bad {l : List Ent} {i : Nat} (hi : i < l.length) (he : badE l[i]) (many : Nat) (b : List Nat) : txt (l.drop i) many b = none := by
  rw [List.drop_eq_getElem_cons hi, txt, if_pos he]
/-- What a text function answers. -/
def txtV (R : Option (List Nat)) : Value := match R with
  | none => .tuple #[.string ByteArray.empty, iv 250]
  | some b => if 8192 < b.length then .tuple #[.string ByteArray.empty, iv 30] else .tuple #[.string (strB b), iv 0]
def InvT2 (H H0 : Heap) (x : Value) (l : List Ent) (i : Nat) (e : Ent) (bx : Value) (k : Nat) (t : Tm) (H1 : Heap) : Prop :=
  ∃ j : Nat, j + k = l.length ∧ i ≤ j ∧ t 0 = x ∧ t 4 = bx ∧ t 5 = iv i ∧ t 6 = iv j ∧ (∀ m (h : m < l.length), i ≤ m → m < j → l[m] = e) ∧ H1 = H0
def InvT1 (H : Heap) (x : Value) (l : List Ent) (RR : Option (List Nat)) (k : Nat) (t : Tm) (H1 : Heap) : Prop :=
  ∃ (i : Nat) (b : List Nat) (bx : Value), i + k = l.length ∧ t 0 = x ∧ t 4 = bx ∧ t 5 = iv i ∧ Bo H H1 b bx ∧ b.length ≤ 50 * i ∧ (b = [] ↔ i = 0) ∧ txt (l.drop i) 0 b = RR
def L15b : LCode := blkC (seqR L15_2)
def L15c : LCode := seqR (seqR L15b)
theorem L15_2_eq : L15_2 = .seq (seqL L15_2) (.block 1 (.seq (seqL L15b) (.seq (seqL (seqR L15b)) L15c))) := rfl
def Lc2 : LCode := seqR L15c
def Lc3 : LCode := seqR Lc2
def Lc4 : LCode := seqR Lc3
def Lc5 : LCode := seqR Lc4
theorem L15c_eq : L15c = .seq (seqL L15c) Lc2 := rfl
theorem Lc2_eq : Lc2 = .seq (seqL Lc2) Lc3 := rfl
theorem Lc3_eq : Lc3 = .seq (seqL Lc3) Lc4 := rfl
theorem Lc4_eq : Lc4 = .seq (seqL Lc4) Lc5 := rfl
section
variable {H : Heap} (hw : H.WF) {x : Value} {l : List Ent} (hx : Rl H x l) (hl : l.length ≤ 40000) {i j : Nat} (hij : i < j) (hjl : j ≤ l.length) {e : Ent} (he : l[i]? = some e) {Q : Post} {b : List Nat} (hb : b.length ≤ 50 * i)
include hl hij hjl
theorem grp5 (hbad : ¬ badE e) (hN : ∀ (tt : Tm) H' bx', tt 0 = x → tt 4 = bx' → tt 5 = iv j → Bo H H' (b ++ sep b ++ grpB e (j - i)) bx' → Q .normal tt (rdy H')) {H1 : Heap} {b' : List Nat} {bx : Value} (bo : Bo H H1 b' bx) (hb' : b'.length ≤ 50 * i + 22) (hE : b' = b ++ sep b ++ entB e)
    {t : Tm} (t0 : t 0 = x) (t4 : t 4 = bx) (t5 : t 5 = iv i) (t6 : t 6 = iv j) : wpA Try.prog Lc5 Q t (rdy H1) := by
  have w1 : IntKind.i64.wrap ((i : Int) + 1) = ((i + 1 : Nat) : Int) := by rw [w64 _ (by omega)]; omega
  have w2 : IntKind.i64.wrap ((j : Int) - (i : Int)) = ((j - i : Nat) : Int) := by rw [w64 _ (by omega)]; omega
  obtain ⟨i1, hi1⟩ : ∃ n, n = i + 1 := ⟨_, rfl⟩
  obtain ⟨d, hd⟩ : ∃ n, n = j - i := ⟨_, rfl⟩
  rw [← hi1] at w1
  rw [← hd] at w2 hN
  by_cases hk : 1 < d
  · have c1 : (i1 : Int) < (j : Int) := by omega
    have c1' : i1 < j := by omega
    obtain ⟨z, H2, q1, q2⟩ := bo_one bo 42 (by omega)
    have tT := textN_T q2.on.wf (n := (d : Int)) (by omega) (by omega)
    rw [show ((d : Int)).toNat = d from rfl] at tT
    obtain ⟨z2, H3, q3, q4⟩ := bo_str q2 (l := decN d) (decN_ok (by omega)).2.2.1 (dec_byte (by omega)) (by have := dec_len d; simp; omega)
    have hz : zerosA [Value.int .u8 0] 1 = [.int .u8 0] := rfl
    have hfin : b' ++ [42] ++ decN d = b ++ sep b ++ grpB e d := by rw [hE]; unfold grpB; rw [if_pos hk]; simp
    rw [hfin] at q4
    simp only [bv] at q1
    simp [Lc5, Lc4, Lc3, Lc2, L15c, L15b, L15_2, blkC, seqR, t6, t5, w1, c1, c1', t4, hz]
    simp only [show ((42 : Nat) : Int) = (42 : Int) from rfl] at q1
    simp [q1, w2]
    refine goT_of tT ?_
    simp [q3]
    exact hN _ _ z2 (by simp [t0]) (by simp) (by simp [t6]) q4
  · have c1 : ¬ (i1 : Int) < (j : Int) := by omega
    have c1' : ¬ i1 < j := by omega
    have hfin : b' = b ++ sep b ++ grpB e d := by rw [hE]; unfold grpB; rw [if_neg hk]; simp
    rw [hfin] at bo
    simp [Lc5, Lc4, Lc3, Lc2, L15c, L15b, L15_2, blkC, seqR, t6, t5, w1, c1, c1']
    exact hN _ _ bx (by simp [t0]) (by simp [t4]) (by simp [t6]) bo
include hw hx he
theorem grp4 (hbad : ¬ badE e) (hN : ∀ (tt : Tm) H' bx', tt 0 = x → tt 4 = bx' → tt 5 = iv j → Bo H H' (b ++ sep b ++ grpB e (j - i)) bx' → Q .normal tt (rdy H')) {H1 : Heap} {b' : List Nat} {bx : Value} (bo : Bo H H1 b' bx) (hb' : b'.length ≤ 50 * i + 2) (hE : b' ++ decN e.1.toNat = b ++ sep b ++ entB e)
    {t : Tm} (t0 : t 0 = x) (t4 : t 4 = bx) (t5 : t 5 = iv i) (t6 : t 6 = iv j) : wpA Try.prog Lc4 Q t (rdy H1) := by
  have hil : i < l.length := by omega
  have hilI : (i : Int) < (l.length : Int) := by omega
  have hei : l[i] = e := by rw [List.getElem?_eq_getElem hil] at he; exact Option.some.inj he
  obtain ⟨q, off, c, hxb, _, ld0, _⟩ := (hx.on hw bo.on).get hil
  rw [hei] at ld0
  have hb31 := hbad
  unfold badE at hb31
  have tT := textN_T bo.on.wf (n := e.1) (by omega) (by omega)
  have d1 := (decN_ok (u := e.1.toNat) (by omega)).2.2.1
  have d2 := dec_byte (u := e.1.toNat) (by omega)
  have d3 := dec_len e.1.toNat
  obtain ⟨z2, H3, q3, q4⟩ := bo_str bo d1 d2 (by omega)
  have g := @grp5 H x l hl i j hij hjl e Q b hbad hN H3 _ z2 q4 (by simp; omega) hE
  rw [Lc4_eq]
  have t0' := t0
  rw [hxb] at t0
  simp [Lc4, Lc3, Lc2, L15c, L15b, L15_2, blkC, seqR, seqL, t0, t5, hil, hilI, ld0]
  refine goT_of tT ?_
  simp [t4, q3]
  exact g (by simp [t0']) (by simp) (by simp [t5]) (by simp [t6])
theorem grp3 (hbad : ¬ badE e) (hN : ∀ (tt : Tm) H' bx', tt 0 = x → tt 4 = bx' → tt 5 = iv j → Bo H H' (b ++ sep b ++ grpB e (j - i)) bx' → Q .normal tt (rdy H')) {H1 : Heap} {b' : List Nat} {bx : Value} (bo : Bo H H1 b' bx) (hb' : b'.length ≤ 50 * i + 1) (hE : b' = b ++ sep b)
    {t : Tm} (t0 : t 0 = x) (t4 : t 4 = bx) (t5 : t 5 = iv i) (t6 : t 6 = iv j) : wpA Try.prog Lc3 Q t (rdy H1) := by
  have hil : i < l.length := by omega
  have hilI : (i : Int) < (l.length : Int) := by omega
  have hei : l[i] = e := by rw [List.getElem?_eq_getElem hil] at he; exact Option.some.inj he
  obtain ⟨q, off, c, hxb, _, _, ld1⟩ := (hx.on hw bo.on).get hil
  rw [hei] at ld1
  have hz : zerosA [Value.int .u8 0] 1 = [.int .u8 0] := rfl
  rw [Lc3_eq]
  have t0' := t0
  rw [hxb] at t0
  by_cases hab : e.2 = true
  · obtain ⟨z, H2, q1, q2⟩ := bo_one bo 33 (by omega)
    have g := @grp4 H hw x l hx hl i j hij hjl e he Q b hbad hN H2 _ z q2 (by simp; omega) (by rw [hE]; unfold entB; rw [if_pos hab]; simp)
    rw [hab] at ld1
    simp only [bv] at q1
    simp only [show ((33 : Nat) : Int) = (33 : Int) from rfl] at q1
    simp [Lc3, Lc2, L15c, L15b, L15_2, blkC, seqR, seqL, t0, t5, hil, hilI, ld1, t4, hz, q1]
    exact g (by simp [t0']) (by simp) (by simp [t5]) (by simp [t6])
  · have g := @grp4 H hw x l hx hl i j hij hjl e he Q b hbad hN H1 _ bx bo (by omega) (by rw [hE]; unfold entB; rw [if_neg hab]; simp)
    have hab' : e.2 = false := by simpa using hab
    rw [hab'] at ld1
    simp [Lc3, Lc2, L15c, L15b, L15_2, blkC, seqR, seqL, t0, t5, hil, hilI, ld1]
    exact g (by simp [t0']) (by simp [t4]) (by simp [t5]) (by simp [t6])
theorem grp1 (hb : b.length ≤ 50 * i) (hb0 : b = [] ↔ i = 0) (hB : badE e → ∀ (tt : Tm) H', tt 2 = .string ByteArray.empty → tt 3 = iv 250 → On H H' → Q .ret tt (rdy H'))
    (hN : ¬ badE e → ∀ (tt : Tm) H' bx', tt 0 = x → tt 4 = bx' → tt 5 = iv j → Bo H H' (b ++ sep b ++ grpB e (j - i)) bx' → Q .normal tt (rdy H')) {H1 : Heap} {bx : Value} (bo : Bo H H1 b bx)
    {t : Tm} (t0 : t 0 = x) (t4 : t 4 = bx) (t5 : t 5 = iv i) (t6 : t 6 = iv j) : wpA Try.prog L15c Q t (rdy H1) := by
  have hil : i < l.length := by omega
  have hilI : (i : Int) < (l.length : Int) := by omega
  have hei : l[i] = e := by rw [List.getElem?_eq_getElem hil] at he; exact Option.some.inj he
  obtain ⟨q, off, c, hxb, _, ld0, _⟩ := (hx.on hw bo.on).get hil
  rw [hei] at ld0
  have hz : zerosA [Value.int .u8 0] 1 = [.int .u8 0] := rfl
  rw [L15c_eq]
  have t0' := t0
  rw [hxb] at t0
  by_cases h1 : e.1 < 0
  · have h := hB (.inl h1)
    simp [L15c, L15b, L15_2, blkC, seqR, seqL, t0, t5, hil, hilI, ld0, h1]
    exact h _ _ (by simp) (by simp) bo.on
  by_cases h2 : 2147483648 ≤ e.1
  · have h := hB (.inr (by omega))
    simp [L15c, L15b, L15_2, blkC, seqR, seqL, t0, t5, hil, hilI, ld0, h1, h2]
    exact h _ _ (by simp) (by simp) bo.on
  have hbad : ¬ badE e := by unfold badE; omega
  rw [Lc2_eq]
  by_cases h0 : 0 < i
  · have h0I : (0 : Int) < (i : Int) := by omega
    have hbn : b ≠ [] := fun h => by have := hb0.1 h; omega
    obtain ⟨z, H2, q1, q2⟩ := bo_one bo 32 (by omega)
    have g := @grp3 H hw x l hx hl i j hij hjl e he Q b hbad (hN hbad) H2 _ z q2 (by simp; omega) (by unfold sep; rw [if_neg hbn])
    simp only [bv] at q1
    simp only [show ((32 : Nat) : Int) = (32 : Int) from rfl] at q1
    simp [Lc2, L15c, L15b, L15_2, blkC, seqR, seqL, t0, t5, hil, hilI, ld0, h1, h2, h0, h0I, t4, hz, q1]
    exact g (by simp [t0']) (by simp) (by simp [t5]) (by simp [t6])
  · have h0I : ¬ (0 : Int) < (i : Int) := by omega
    have hbn : b = [] := hb0.2 (by omega)
    have g := @grp3 H hw x l hx hl i j hij hjl e he Q b hbad (hN hbad) H1 _ bx bo (by omega) (by unfold sep; rw [if_pos hbn]; simp)
    simp [Lc2, L15c, L15b, L15_2, blkC, seqR, seqL, t0, t5, hil, hilI, ld0, h1, h2, h0, h0I]
    exact g (by simp [t0']) (by simp [t4]) (by simp [t5]) (by simp [t6])
end
theorem text_T {H : Heap} (hw : H.WF) {x : Value} {l : List Ent} (hx : Rl H x l) (hl : l.length ≤ 100000) :
    T Try.prog 15 [x] H (if 40000 < l.length then .tuple #[.string ByteArray.empty, iv 251] else txtV (txt l 0 [])) H := by
  obtain ⟨V, hV⟩ : ∃ V : Value, V = (if 40000 < l.length then .tuple #[.string ByteArray.empty, iv 251] else txtV (txt l 0 [])) := ⟨_, rfl⟩
  rw [← hV]
  refine T_seen hm light15 ?_ ?_
  · rw [hV]
    split
    · rfl
    · unfold txtV
      split
      · rfl
      · split <;> rfl
  obtain ⟨a0, c0, hx0⟩ := hx.len
  have hxs := hx0
  by_cases hbig : 40000 < l.length
  · rw [if_pos hbig] at hV
    have c1 : (40000 : Int) < (l.length : Int) := by omega
    rw [hx0]
    simp [L15, c1, hbig, hV]
  rw [if_neg hbig] at hV
  have c1 : ¬ (40000 : Int) < (l.length : Int) := by omega
  rw [hx0]
  simp [L15, c1, hbig]
  rw [← hx0]
  refine loop_at (InvT1 H x l (txt l 0 [])) l.length ?_ ?_
  · exact ⟨0, [], .slice none 0 0, by omega, by simp, by simp, by simp, Row.nil hw _ _, by simp, by simp, by simp⟩
  · rintro k t H1 ⟨i, b, bx, hik, t0, t4, t5, bo, hbl, hb0, hR⟩
    obtain ⟨ab, hbx⟩ := bo.own.len
    by_cases hil : i < l.length
    · have e1 : ((i : Int) < l.length) := by omega
      have hx1 := hx.on hw bo.on
      obtain ⟨q, off, c, hxb, lde, lde0, lde1⟩ := hx1.get hil
      obtain ⟨e, he⟩ : ∃ e, e = l[i] := ⟨_, rfl⟩
      rw [← he] at lde lde0 lde1
      have t0' := t0
      rw [hxb] at t0
      rw [L15_2_eq]
      simp [L15b, L15_2, blkC, seqL, seqR, t5, t0, e1, hil]
      refine loop_at (InvT2 H H1 x l i e bx) (l.length - i) ?_ ?_
      · exact ⟨i, by omega, Nat.le_refl _, by simp [t0'], by simp [t4], by simp [t5], by simp, fun m h h1 h2 => by omega, rfl⟩
      · rintro k2 tt H2 ⟨j, hjk, hij, u0, u4, u5, u6, hall, rfl⟩
        -- the run's end
        have fin : i < j → j ≤ l.length → (∀ h : j < l.length, l[j] ≠ e) → ∀ tt : Tm, tt 0 = x → tt 4 = bx → tt 5 = iv i → tt 6 = iv j →
            wpA Try.prog L15c (blockA 1 (thenA (fun t' H' => ∃ m, m < k ∧ InvT1 H x l (txt l 0 []) m t' H') (blockA 0 (thenA (wpA Try.prog (seqR (seqR (seqR (seqR L15)))) (EndA (fun v1 H1 => v1 = V ∧ ∀ b, b < H.next → H1.blk b = H.blk b) [.tmp 2, .tmp 3])) (EndA (fun v1 H1 => v1 = V ∧ ∀ b, b < H.next → H1.blk b = H.blk b) [.tmp 2, .tmp 3]))))) tt (rdy H2) := by
          intro hlt hjl hend tt u0 u4 u5 u6
          refine grp1 hw hx (by omega) hlt hjl (e := e) (by rw [List.getElem?_eq_getElem hil, he]) hbl hb0 ?_ ?_ bo u0 u4 u5 u6
          · intro hbad tt H' v2 v3 on'
            have hn : txt (l.drop i) 0 b = none := txt_bad hil (by rw [← he]; exact hbad) 0 b
            rw [hn] at hR
            rw [← hR] at hV
            simp [v2, v3]
            exact ⟨hV.symm, on'.keep⟩
          · intro hbad tt H' bx' v0 v4 v5 bo'
            simp
            have hr := txt_run hbad b (j - i) i j 0 rfl hlt hjl hall hend
            rw [Nat.zero_add] at hr
            have hg := grpB_ne e (j - i) hbad
            have hgl : (grpB e (j - i)).length ≤ 42 := by
              have h1 := dec_len e.1.toNat
              have h2 := dec_len (j - i)
              unfold grpB entB
              simp only [List.length_append]
              split <;> split <;> simp <;> omega
            have hsl : (sep b).length ≤ 1 := by unfold sep; split <;> simp
            exact ⟨l.length - j, by omega, j, _, bx', by omega, v0, v4, v5, bo', by simp only [List.length_append]; omega, by
              constructor
              · intro h
                have := congrArg List.length h
                rw [List.length_append, List.length_nil] at this
                omega
              · intro h; omega, by rw [← hr]; exact hR⟩
        by_cases hjl : j < l.length
        · obtain ⟨q2, off2, c2, hxb2, ldj, _, _⟩ := hx1.get hjl
          have c3 : (j : Int) < (l.length : Int) := by omega
          have e4 : IntKind.i64.wrap ((j : Int) + 1) = ((j + 1 : Nat) : Int) := by rw [w64 _ (by omega)]; omega
          obtain ⟨jN, hjN⟩ : ∃ n : Nat, n = j + 1 := ⟨_, rfl⟩
          rw [← hjN] at e4
          have hq : q2 = q ∧ off2 = off := by
            rw [hxb] at hxb2
            simp at hxb2
            exact ⟨hxb2.1.1.symm, hxb2.1.2.symm⟩
          obtain ⟨rfl, rfl⟩ := hq
          have u0' := u0
          rw [hxb] at u0
          simp [L15_1, u6, u0, c3, hjl, ldj, u5, e1, hil, lde]
          rw [wpP_eqR0]
          refine goE_of (by rfl) (by rfl) (eqN l[j] e) ?_
          by_cases hje : l[j] = e
          · simp [hje, u6, e4]
            exact ⟨k2 - 1, by omega, jN, by omega, by omega, by simp [u0'], by simp [u4], by simp [u5], by simp, fun m h h1 h2 => by
              by_cases hmj : m = j
              · subst hmj; exact hje
              · exact hall m h h1 (by omega), rfl⟩
          · have hij2 : i < j := by
              rcases Nat.lt_or_ge i j with h | h
              · exact h
              · exfalso
                have : i = j := by omega
                subst this
                exact hje he.symm
            simp [hje]
            exact fin hij2 (by omega) (fun _ => hje) _ (by simp [u0']) (by simp [u4]) (by simp [u5]) (by simp [u6])
        · have c3 : ¬ (j : Int) < (l.length : Int) := by omega
          have u0' := u0
          rw [hxb] at u0
          simp [L15_1, u6, u0, c3, hjl]
          exact fin (by omega) (by omega) (fun h => absurd h hjl) _ (by simp [u0']) (by simp [u4]) (by simp [u5]) (by simp [u6])
    · have e1 : ¬ ((i : Int) < l.length) := by omega
      have ei : l.drop i = [] := List.drop_eq_nil_iff.2 (by omega)
      rw [ei] at hR
      have hR : some b = txt l 0 [] := hR
      rw [← hR] at hV
      unfold txtV at hV
      simp only at hV
      have os := bo_out bo
      rw [hbx] at os t4
      rw [hxs] at t0
      by_cases h8 : 8192 < b.length
      · have h8i : (8192 : Int) < (b.length : Int) := by omega
        rw [if_pos h8] at hV
        simp [L15_2, t5, t0, e1, hil, t4, h8, h8i, hV]
        exact bo.on.keep
      · have h8i : ¬ (8192 : Int) < (b.length : Int) := by omega
        rw [if_neg h8] at hV
        simp [L15_2, t5, t0, e1, hil, t4, h8, h8i, os, hV]
        exact bo.on.keep
end Go.Proofs.Ytmdlfenileiaeaa
