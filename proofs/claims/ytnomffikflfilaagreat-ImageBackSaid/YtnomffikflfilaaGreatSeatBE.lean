/-
  Chapter 26: what a memory begins with (carried over from chapter 25). Chapter 26: which jobs may be (carried over from chapter 25).
-/
import Derived.Test.YtnomffikflfilaaGreatSeatBC
namespace Go.Proofs.YtnomffikflfilaaGreat
open Go.Ot Go.RowKit
open R14 (Twos ci)
set_option linter.unusedSimpArgs false
set_option linter.unusedVariables false
def ofGo (w : Int) : List (Int × Int) → List Int → Int
  | [], _ => 0
  | c :: l, seen => if c.1 < 0 ∨ w ≤ c.1 then 131 else if c.1 ∈ seen then 61 else ofGo w l (seen ++ [c.1])
def ofE (w : Int) (l : List (Int × Int)) : Int := if w < 1 ∨ 64 < w then 130 else ofGo w l []
def OfQ (H : Heap) (E : Int) (o : Out) (H' : Heap) : Prop := (∃ a n c, o = .ret (.tuple #[.slice a n c, iv E])) ∧ On H H'
def cells64 (s : List Int) : List Value := (List.range 64).map fun (j : Nat) => .bool (decide ((j : Int) ∈ s))
theorem cells64_len (s : List Int) : (cells64 s).length = 64 := by simp [cells64]
theorem cells64_get (s : List Int) {j : Nat} (hj : j < 64) : (cells64 s)[j]? = some (.bool (decide ((j : Int) ∈ s))) := by simp [cells64, hj]
theorem cells64_set (s : List Int) {j : Nat} (hj : j < 64) : (cells64 s).set j (.bool true) = cells64 (s ++ [(j : Int)]) := by
  apply List.ext_getElem?
  intro i
  by_cases hi : i < 64
  · by_cases h : j = i
    · subst h
      rw [List.getElem?_set_self (by rw [cells64_len]; exact hj), cells64_get _ hi]
      simp
    · rw [List.getElem?_set_ne h, cells64_get _ hi, cells64_get _ hi]
      have : ¬ (i : Int) = (j : Int) := by omega
      simp [this]
  · rw [List.getElem?_eq_none (by rw [List.length_set, cells64_len]; omega), List.getElem?_eq_none (by rw [cells64_len]; omega)]
theorem twos_rws {H : Heap} {x : Value} {l : List (Int × Int)} (h : Twos H x l) {i : Nat} (hi : i < l.length) : ∃ b off c, x = .slice (some ⟨b, off, none⟩) l.length c ∧ H.loadN ⟨b, off + i * 2, none⟩ 0 2 = some [iv l[i].1, iv l[i].2] ∧ H.load ⟨b, off + i * 2, none⟩ = some (iv l[i].1) := by
  obtain ⟨b, off, c, hx, h1, h2⟩ := h.at hi
  refine ⟨b, off, c, hx, ?_, h1⟩
  have := loadN_cells (H := H) (b := b) (off := off + i * 2) (l := [iv l[i].1, iv l[i].2]) (i := 0) (fun j hj => by
    have hj2 : j < 2 := by simpa using hj
    rcases j with - | - | j
    · exact h1
    · exact h2
    · omega)
  simpa using this
def InvOf (H : Heap) (w : Int) (wn : Nat) (x : Value) (l : List (Int × Int)) (E : Int) (q1 q2 : Nat) (k : Nat) (t : Tm) (H1 : Heap) : Prop :=
  ∃ (i : Nat) (cs : List Value), i + k = l.length ∧ t 0 = iv w ∧ t 6 = .slice (some ⟨q1, 0, none⟩) wn 0 ∧ t 7 = ptr q2 ∧ t 18 = x ∧ t 19 = iv l.length ∧ t 20 = iv i ∧ On H H1 ∧ Vr H1 q1 2 1 cs ∧ cs.length = wn ∧ Vr H1 q2 212 64 (cells64 ((l.take i).map Prod.fst)) ∧ ofGo w (l.drop i) ((l.take i).map Prod.fst) = E
theorem memOf_N {H : Heap} (hw : H.WF) (w : Int) {x : Value} {l : List (Int × Int)} (hx : Twos H x l) (hl : l.length ≤ 2000000) : TN Tryz.prog 84 [iv w, x] H (OfQ H (ofE w l)) := by
  refine N_by hm light84 ?_
  obtain ⟨ax, cx, hxv⟩ := hx.len
  by_cases w1 : w < 1
  · have hE : ofE w l = 130 := by unfold ofE; rw [if_pos (.inl w1)]
    rw [hE]
    simp [L84, w1]
    exact ⟨⟨_, _, _, rfl⟩, On.refl hw⟩
  by_cases w64' : 64 < w
  · have hE : ofE w l = 130 := by unfold ofE; rw [if_pos (.inr w64')]
    rw [hE]
    simp [L84, w1, w64']
    exact ⟨⟨_, _, _, rfl⟩, On.refl hw⟩
  obtain ⟨E, hE⟩ : ∃ E, E = ofE w l := ⟨_, rfl⟩
  rw [← hE]
  unfold ofE at hE
  rw [if_neg (by omega)] at hE
  obtain ⟨wn, hwn⟩ : ∃ wn, wn = w.toNat := ⟨_, rfl⟩
  have ewn : w = (wn : Int) := by omega
  have mk : sMake H 2 1 8 [iv 0] (iv w) (iv w) = some (.slice (some ⟨H.next, 0, none⟩) wn 0, H.new 2 1 (zerosA [iv 0] wn)) := by
    have h1 : 0 ≤ w ∧ w ≤ w ∧ (8 : Nat) * w ≤ 140737488355328 ∧ w ≤ 9223372036854775807 := by omega
    simp only [sMake, hwn]
    rw [if_pos (by simpa using h1)]
    simp
  have hz : (zerosA [iv 0] wn).length = wn := by rw [zerosA_one]; simp
  obtain ⟨HA, hHA⟩ : ∃ HA, HA = H.new 2 1 (zerosA [iv 0] wn) := ⟨_, rfl⟩
  have onA : On H HA := by rw [hHA]; exact (On.refl hw).new _ _ _
  have VA : Vr HA H.next 2 1 (zerosA [iv 0] wn) := by rw [hHA]; exact Vr.mk' hw _ _ _
  have nA : HA.next = H.next + 1 := by rw [hHA]; simp
  have hc0 : cells64 [] = List.replicate 64 (.bool false) := by simp [cells64]; rfl
  obtain ⟨HB, hHB⟩ : ∃ HB, HB = HA.new 212 64 (List.replicate 64 (.bool false)) := ⟨_, rfl⟩
  have onB : On H HB := by rw [hHB]; exact onA.new _ _ _
  have VB : Vr HB (H.next + 1) 212 64 (cells64 []) := by rw [hHB, ← nA, hc0]; exact Vr.mk' onA.wf _ _ _
  have VA2 : Vr HB H.next 2 1 (zerosA [iv 0] wn) := by rw [hHB]; exact VA.new onA.wf _ _ _
  simp only [List.replicate] at hHB
  rw [← hHA] at mk
  rw [hxv]
  simp [L84, w1, w64', mk, ← hHB, nA]
  rw [← hxv]
  refine loopN_at (InvOf H w wn x l E H.next (H.next + 1)) l.length ?_ ?_
  · exact ⟨0, _, by omega, by simp, by simp, by simp, by simp, by simp, by simp, onB, VA2, hz, by simpa using VB, by simpa using hE.symm⟩
  · rintro k t H1 ⟨i, cs, hik, t0, t6, t7, t18, t19, t20, on, V1, hcs, V2, hgo⟩
    cases k with
    | zero =>
      have ei : l.drop i = [] := List.drop_eq_nil_iff.2 (by omega)
      rw [ei] at hgo
      have hE0 : E = 0 := hgo.symm
      have e1 : ¬ ((i : Int) < l.length) := by omega
      have e1' : ¬ i < l.length := by omega
      simp [L84_1, t20, t19, e1, e1', t6]
      rw [hE0]
      exact ⟨⟨_, _, _, rfl⟩, on⟩
    | succ k =>
      have hil : i < l.length := by omega
      have e1 : ((i : Int) < l.length) := by omega
      have e4 : IntKind.i64.wrap ((i : Int) + 1) = ((i + 1 : Nat) : Int) := by rw [w64 _ (by omega)]; omega
      obtain ⟨iN, hiN⟩ : ∃ n : Nat, n = i + 1 := ⟨_, rfl⟩
      rw [← hiN] at e4
      have hx1 := hx.keep hw on.base on.keep
      obtain ⟨b, off, c, hxb, ldx, _⟩ := twos_rws hx1 hil
      rw [List.drop_eq_getElem_cons hil, ofGo, ← hiN] at hgo
      have htk : (l.take iN).map Prod.fst = (l.take i).map Prod.fst ++ [l[i].1] := by rw [hiN, List.take_succ_eq_append_getElem hil, List.map_append]; rfl
      obtain ⟨e, he⟩ : ∃ e, e = l[i] := ⟨_, rfl⟩
      rw [← he] at ldx hgo htk
      have t18' := t18
      rw [hxb] at t18
      have st := new_storeA on.wf 98 2 [iv 0, iv 0] [iv e.1, iv e.2] rfl rfl (by decide)
      have VE : Vr (H1.new 98 2 [iv e.1, iv e.2]) H1.next 98 2 [iv e.1, iv e.2] := Vr.mk' on.wf _ _ _
      have V1' := V1.new on.wf 98 2 [iv e.1, iv e.2]
      have V2' := V2.new on.wf 98 2 [iv e.1, iv e.2]
      have on2 : On H (H1.new 98 2 [iv e.1, iv e.2]) := on.new _ _ _
      have l1n := on.wf.lt V1.bq
      have l2n := on.wf.lt V2.bq
      obtain ⟨p, hp⟩ : ∃ p, p = H1.next := ⟨_, rfl⟩
      obtain ⟨H2, hH2⟩ : ∃ H2, H2 = H1.new 98 2 [iv e.1, iv e.2] := ⟨_, rfl⟩
      rw [← hH2, ← hp] at st VE
      rw [← hH2] at V1' V2' on2
      rw [← hp] at l1n l2n
      have f0 : H2.load ⟨p, 0, none⟩ = some (iv e.1) := VE.load 0
      have f1 : H2.load ⟨p, 1, none⟩ = some (iv e.2) := VE.load 1
      by_cases e0 : e.1 < 0
      · rw [if_pos (.inl e0)] at hgo
        simp [L84_1, t20, t19, e1, hil, t18, ldx, st, ← hp, f0, e0]
        rw [← hgo]
        exact ⟨⟨_, _, _, rfl⟩, on2⟩
      by_cases ew : w ≤ e.1
      · rw [if_pos (.inr ew)] at hgo
        simp [L84_1, t20, t19, e1, hil, t18, ldx, st, ← hp, f0, e0, t0, ew]
        rw [← hgo]
        exact ⟨⟨_, _, _, rfl⟩, on2⟩
      rw [if_neg (by omega)] at hgo
      obtain ⟨j, hj⟩ : ∃ j, j = e.1.toNat := ⟨_, rfl⟩
      have ej : e.1 = (j : Int) := by omega
      have hj64 : j < 64 := by omega
      have hjw : j < wn := by omega
      have hjwI : (j : Int) < (wn : Int) := by omega
      rw [ej] at f0 e0 ew hgo htk
      have ix : sIdxArr 64 1 (ptr (H.next + 1)) (iv j) = some (.pointer (some ⟨H.next + 1, j, none⟩)) := by
        have c1 : (0 : Int) ≤ j ∧ (j : Int) < 64 := by omega
        simp [sIdxArr, c1, add_own, hj64]
      have ldj : H2.load ⟨H.next + 1, j, none⟩ = some (.bool (decide ((j : Int) ∈ (l.take i).map Prod.fst))) := by rw [V2'.load j, cells64_get _ hj64]
      by_cases hs : (j : Int) ∈ (l.take i).map Prod.fst
      · rw [if_pos hs] at hgo
        rw [decide_eq_true hs] at ldj
        simp [L84_1, t20, t19, e1, hil, t18, ldx, st, ← hp, f0, e0, t0, ew, t7, ix, ldj]
        rw [← hgo]
        exact ⟨⟨_, _, _, rfl⟩, on2⟩
      · rw [if_neg hs] at hgo
        rw [decide_eq_false hs] at ldj
        have stj : H2.store ⟨H.next + 1, j, none⟩ (.bool true) = some (H2.put (H.next + 1) (cells64 ((l.take iN).map Prod.fst))) := by
          rw [V2'.store j _ (by rw [cells64_len]; exact hj64), cells64_set _ hj64, htk]
        have V3 := V2'.put (cells64 ((l.take iN).map Prod.fst))
        have V13 := V1'.beside (show H.next ≠ H.next + 1 by omega) (cells64 ((l.take iN).map Prod.fst))
        have VE3 := VE.beside (show p ≠ H.next + 1 by omega) (cells64 ((l.take iN).map Prod.fst))
        have on3 : On H (H2.put (H.next + 1) (cells64 ((l.take iN).map Prod.fst))) := on2.put (by omega) _
        obtain ⟨H3, hH3⟩ : ∃ H3, H3 = H2.put (H.next + 1) (cells64 ((l.take iN).map Prod.fst)) := ⟨_, rfl⟩
        rw [← hH3] at stj V3 V13 VE3 on3
        have f03 : H3.load ⟨p, 0, none⟩ = some (iv j) := by rw [← ej]; exact VE3.load 0
        have f13 : H3.load ⟨p, 1, none⟩ = some (iv e.2) := VE3.load 1
        have sto : H3.store ⟨H.next, j, none⟩ (iv e.2) = some (H3.put H.next (cs.set j (iv e.2))) := V13.store j _ (by omega)
        simp [L84_1, t20, t19, e1, hil, t18, ldx, st, ← hp, f0, e0, t0, ew, t7, ix, ldj, stj, t6, f03, f13, hjw, hjwI, sto, e4]
        exact ⟨k, by omega, iN, _, by omega, by simp [t0], by simp [t6], by simp [t7], by simp [t18'], by simp [t19], by simp, on3.put (Nat.le_refl _) _, V13.put _, by simp [hcs], V3.beside (show H.next + 1 ≠ H.next by omega) _, by rw [htk]; exact hgo⟩
def TE (P : Program) (f : FuncId) (args : List Value) (H : Heap) (Q : Out → Heap → Prop) : Prop := ∃ v H', T P f args H v H' ∧ Q (.ret v) H'
theorem TE_by {P : Program} (hm : P.follows .mixedOrders = true) {f : FuncId} {n : Nat} {lc : LCode} {lr : List LRes} {args : List Value} (hL : Light P f args.length n lc lr) {H : Heap} {Q : Out → Heap → Prop}
    (h : wpA P lc (EndA (fun v H' => Q (.ret v) H') lr) (initT args) (rdy H)) : TE P f args H Q := T_by hm hL h
theorem goA_of {P : Program} {f : FuncId} {args : List Value} {H : Heap} {Q : Out → Heap → Prop} {K : Value → Heap → Prop} (hw : H.WF) (h : TE P f args H Q) (hk : ∀ o H', Q o H' → H'.WF → H'.base = H.base → H.next ≤ H'.next → outK (fun v => K v (rdy H')) (fun _ => False) o) : goT P f args H K := by
  obtain ⟨v, H', t, q⟩ := h
  exact goT_of t (hk (.ret v) H' q (t.2.2.1 hw) t.1 t.2.1)
end Go.Proofs.YtnomffikflfilaaGreat
namespace Go.Proofs.YtnomffikflfilaaGreat
open Go.Ot Go.RowKit
open R14 (Twos chkC NewQ)
open I8 (In rowI checkV)
set_option linter.unusedSimpArgs false
set_option linter.unusedVariables false
theorem T_of_On {f : FuncId} {args : List Value} {H : Heap} {v : Value} (hv : plain3 v = true) (h : TN Tryz.prog f args H (fun o H' => o = .ret v ∧ On H H')) : T Tryz.prog f args H v H := by
  refine TN.one rfl (Nat.le_refl _) id ?_
  refine (h.forget (Q' := fun o => o = .ret v) ?_).mono (fun o H' h _ _ _ => ⟨h.2, h.1⟩)
  rintro o H' ⟨rfl, on⟩
  exact ⟨hv, on.keep, rfl⟩
structure Jb where
  words : Int
  fuel : Int
  S : Shp
  cells : List (Int × Int)
  reds : List (Int × Int)
  codes : List (List In)
  xc : Value
  xr : Value
  xk : Value
abbrev jobC (J : Jb) : List Value := [iv J.words, J.xc, J.xr, iv J.fuel, iv J.S.kind, iv J.S.lo, iv J.S.hi, iv J.S.step, iv J.S.items, iv J.S.stages, J.xk]
def Cds (H : Heap) (x : Value) (l : List (List In)) : Prop :=
  (x = .slice none 0 0 ∧ l = []) ∨ ∃ b off c, x = .slice (some ⟨b, off, none⟩) l.length c ∧ ∀ i (h : i < l.length), ∃ y, H.load ⟨b, off + i, none⟩ = some y ∧ Rws H 6 y (l[i].map rowI)
theorem Cds.len {H : Heap} {x : Value} {l : List (List In)} (h : Cds H x l) : ∃ a c, x = .slice a l.length c := by
  rcases h with ⟨rfl, rfl⟩ | ⟨b, off, c, rfl, h⟩ <;> exact ⟨_, _, rfl⟩
theorem Cds.at {H : Heap} {x : Value} {l : List (List In)} (h : Cds H x l) {i : Nat} (hi : i < l.length) : ∃ b off c y, x = .slice (some ⟨b, off, none⟩) l.length c ∧ H.load ⟨b, off + i, none⟩ = some y ∧ Rws H 6 y (l[i].map rowI) := by
  rcases h with ⟨rfl, rfl⟩ | ⟨b, off, c, rfl, h⟩
  · simp at hi
  · obtain ⟨y, h1, h2⟩ := h i hi
    exact ⟨b, off, c, y, rfl, h1, h2⟩
theorem Cds.on {H H1 : Heap} (hw : H.WF) {x : Value} {l : List (List In)} (h : Cds H x l) (o : On H H1) : Cds H1 x l := by
  rcases h with h | ⟨b, off, c, rfl, h⟩
  · exact .inl h
  · refine .inr ⟨b, off, c, rfl, fun i hi => ?_⟩
    obtain ⟨y, h1, h2⟩ := h i hi
    exact ⟨y, load_keepN hw o.base o.keep h1, Rws.keep hw o.base o.keep h2⟩
structure JbOk (H : Heap) (J : Jb) : Prop where
  xc : Twos H J.xc J.cells
  xr : Twos H J.xr J.reds
  xk : Cds H J.xk J.codes
  S : ShpOk J.S
  nc : J.cells.length ≤ 2000000
  nr : J.reds.length ≤ 2000000
  nk : J.codes.length ≤ 2000000
  kinds : ∀ c ∈ J.codes, ∀ a ∈ c, I8.okI a.kind
theorem JbOk.on {H H1 : Heap} (hw : H.WF) {J : Jb} (h : JbOk H J) (o : On H H1) : JbOk H1 J :=
  ⟨h.xc.keep hw o.base o.keep, h.xr.keep hw o.base o.keep, h.xk.on hw o, h.S, h.nc, h.nr, h.nk, h.kinds⟩
def codeE (n : Int) : List (List In) → Int
  | [] => 0
  | c :: l => if (checkV c n).2 ≠ 0 then (checkV c n).2 else codeE n l
def validE (J : Jb) : Int :=
  if ofE J.words J.cells ≠ 0 then ofE J.words J.cells else if chkC J.reds ≠ 0 then chkC J.reds else if J.fuel < 1 ∨ 4000 < J.fuel then 110
  else if (cntP J.S).2 ≠ 0 then (cntP J.S).2 else if (J.codes.length : Int) ≠ stgV J.S then 170 else codeE J.reds.length J.codes
structure JL (H : Heap) (p : Nat) (J : Jb) : Prop where
  l0 : H.load ⟨p, 0, none⟩ = some (iv J.words)
  l1 : H.load ⟨p, 1, none⟩ = some J.xc
  l2 : H.load ⟨p, 2, none⟩ = some J.xr
  l3 : H.load ⟨p, 3, none⟩ = some (iv J.fuel)
  l4 : H.load ⟨p, 4, none⟩ = some (iv J.S.kind)
  l9 : H.load ⟨p, 9, none⟩ = some (iv J.S.stages)
  l10 : H.load ⟨p, 10, none⟩ = some J.xk
  lS : H.loadN ⟨p, 4, none⟩ 0 6 = some (shpC J.S)
  lA : H.loadN ⟨p, 0, none⟩ 0 11 = some (jobC J)
theorem JL.of {H : Heap} {p ty n : Nat} {J : Jb} (v : Vr H p ty n (jobC J)) : JL H p J := by
  refine ⟨v.load 0, v.load 1, v.load 2, v.load 3, v.load 4, v.load 9, v.load 10, ?_, v.loadA rfl⟩
  have := loadN_cells (H := H) (b := p) (off := 4) (l := shpC J.S) (i := 0) (fun j hj => by
    have hj6 : j < 6 := hj
    rw [v.load]
    match j, hj6 with
    | 0, _ => rfl
    | 1, _ => rfl
    | 2, _ => rfl
    | 3, _ => rfl
    | 4, _ => rfl
    | 5, _ => rfl)
  exact this
theorem chk_T {H : Heap} (hw : H.WF) {x : Value} {l : List In} (hx : Rws H 6 x (l.map rowI)) (cells : Int) : T Tryz.prog 87 [x, iv cells] H (.tuple #[iv (checkV l cells).1, iv (checkV l cells).2]) H := by
  obtain ⟨v, H', hT, rfl, hs⟩ := I8.check_T hw hx cells
  exact T_forget hT (fun b hb => hs b hb (by simp)) rfl
theorem redNew_N {H : Heap} (hw : H.WF) {x : Value} {l : List (Int × Int)} (hx : Twos H x l) : TN Tryz.prog 85 [x] H (fun o H' => (∃ q, o = .ret (.tuple #[.pointer q, iv (chkC l)])) ∧ On H H') := by
  obtain ⟨v, H', hT, w', b', n', k', hq⟩ := R14.new_T hw hx
  refine (TN.of hT).mono ?_
  rintro o H1 ⟨rfl, rfl⟩ _ _ _
  refine ⟨?_, w', b', n', k'⟩
  unfold NewQ at hq
  unfold chkC
  split at hq
  · rename_i h4
    rw [if_pos h4]
    exact ⟨_, by rw [hq]⟩
  · rename_i h4
    rw [if_neg h4]
    split at hq
    · rename_i ha
      rw [if_pos ha]
      obtain ⟨p, xo, xn, e, _⟩ := hq
      exact ⟨_, by rw [e]⟩
    · rename_i ha
      rw [if_neg ha]
      exact ⟨_, by rw [hq]⟩
def InvVa (H : Heap) (J : Jb) (p : Nat) (k : Nat) (t : Tm) (H1 : Heap) : Prop :=
  ∃ i : Nat, i + k = J.codes.length ∧ t 1 = ptr p ∧ t 58 = J.xk ∧ t 59 = iv J.codes.length ∧ t 60 = iv i ∧ codeE J.reds.length (J.codes.drop i) = codeE J.reds.length J.codes ∧ H1 = H
theorem code_loop {H : Heap} (hw : H.WF) {J : Jb} (ok : JbOk H J) {p : Nat} (jl : JL H p J) {Q : Post} {t : Tm} (t1 : t 1 = ptr p) (t58 : t 58 = J.xk) (t59 : t 59 = iv J.codes.length) (t60 : t 60 = iv 0)
    (hE : ∀ tt : Tm, codeE J.reds.length J.codes = 0 → Q (.exit 0) tt (rdy H)) (hR : ∀ tt : Tm, tt 2 = iv (codeE J.reds.length J.codes) → Q .ret tt (rdy H)) : wpN Tryz.prog (.loop L43_1) Q t (rdy H) := by
  refine loopN_at (InvVa H J p) J.codes.length ?_ ?_
  · exact ⟨0, by omega, t1, t58, t59, t60, by simp, rfl⟩
  · rintro k t H1 ⟨i, hik, t1, t58, t59, t60, hc, rfl⟩
    have nk := ok.nk
    cases k with
    | zero =>
      have e1 : ¬ ((i : Int) < J.codes.length) := by omega
      have e1' : ¬ i < J.codes.length := by omega
      have ei : J.codes.drop i = [] := List.drop_eq_nil_iff.2 (by omega)
      rw [ei] at hc
      simp [L43_1, t60, t59, e1, e1']
      exact hE _ hc.symm
    | succ k =>
      have hil : i < J.codes.length := by omega
      have e1 : ((i : Int) < J.codes.length) := by omega
      have e4 : IntKind.i64.wrap ((i : Int) + 1) = ((i + 1 : Nat) : Int) := by rw [w64 _ (by omega)]; omega
      obtain ⟨iN, hiN⟩ : ∃ n : Nat, n = i + 1 := ⟨_, rfl⟩
      rw [← hiN] at e4
      obtain ⟨b, off, c, y, hxb, ldy, ry⟩ := ok.xk.at hil
      obtain ⟨ar, cr, hxr⟩ := ok.xr.len
      obtain ⟨ay, cy, hy⟩ := ry.len
      have hnt : notTup y = true := by rw [hy]; rfl
      have cT := chk_T hw ry (J.reds.length : Int)
      rw [List.drop_eq_getElem_cons hil, codeE, ← hiN] at hc
      have t58' := t58
      rw [hxb] at t58
      have l2 := jl.l2
      rw [hxr] at l2
      obtain ⟨V1, hV1⟩ : ∃ v, v = (checkV J.codes[i] (J.reds.length : Int)).1 := ⟨_, rfl⟩
      obtain ⟨V2, hV2⟩ : ∃ v, v = (checkV J.codes[i] (J.reds.length : Int)).2 := ⟨_, rfl⟩
      rw [← hV1, ← hV2] at cT
      rw [← hV2] at hc
      simp [L43_1, t60, t59, e1, hil, t58, ldy, t1, l2, hnt]
      refine goN_T cT ?_
      by_cases h0 : V2 = 0
      · rw [if_neg (by simp [h0])] at hc
        simp [h0, t60, e4]
        exact ⟨k, by omega, iN, by omega, by simp [t1], by simp [t58'], by simp [t59], by simp, hc, rfl⟩
      · have h0b : (V2 != 0) = true := by simpa using h0
        rw [if_pos h0] at hc
        simp [h0b, h0]
        exact hR _ (by simp [← hc])
theorem valid_N {H : Heap} (hw : H.WF) {J : Jb} (ok : JbOk H J) : TN Tryz.prog 43 [.agg (jobC J).toArray] H (fun o H' => o = .ret (iv (validE J)) ∧ On H H') := by
  refine N_by hm light43 ?_
  obtain ⟨E, hE⟩ : ∃ E, E = validE J := ⟨_, rfl⟩
  rw [← hE]
  obtain ⟨G, hG⟩ : ∃ G, G = H.new 29 11 (jobC J) := ⟨_, rfl⟩
  have on : On H G := by rw [hG]; exact (On.refl hw).new _ _ _
  have vr : Vr G H.next 29 11 (jobC J) := by rw [hG]; exact Vr.mk' hw _ _ _
  have okG := ok.on hw on
  have jl := JL.of vr
  unfold validE at hE
  simp [L43, ← hG, jl.l0, jl.l1]
  refine goN_of (memOf_N on.wf J.words okG.xc (by have := ok.nc; omega)) ?_
  rintro r H1 ⟨⟨a, n, c, rfl⟩, on1⟩ w1 _ _
  by_cases h1 : ofE J.words J.cells = 0
  · rw [if_neg (by simp [h1])] at hE
    have jl1 := JL.of (vr.on on.wf on1)
    have ok1 := okG.on on.wf on1
    rw [h1]
    simp [jl1.l2]
    refine goN_of (redNew_N w1 ok1.xr) ?_
    rintro r H2 ⟨⟨q, rfl⟩, on2⟩ w2 _ _
    have onG2 := on1.trans on2
    have jl2 := JL.of (vr.on on.wf onG2)
    have ok2 := okG.on on.wf onG2
    have onH2 := on.trans onG2
    by_cases h2 : chkC J.reds = 0
    · rw [if_neg (by simp [h2])] at hE
      rw [h2]
      by_cases f1 : J.fuel < 1
      · rw [if_pos (.inl f1)] at hE
        simp [jl2.l3, f1, hE]
        exact onH2
      by_cases f2 : 4000 < J.fuel
      · rw [if_pos (.inr f2)] at hE
        simp [jl2.l3, f1, f2, hE]
        exact onH2
      rw [if_neg (by omega)] at hE
      simp [jl2.l3, f1, f2, jl2.lS]
      refine goN_T (count_T w2 J.S ok.S) ?_
      by_cases h3 : (cntP J.S).2 = 0
      · rw [if_neg (by simp [h3])] at hE
        rw [h3]
        obtain ⟨ak, ck, hxk⟩ := ok.xk.len
        have l10 := jl2.l10
        rw [hxk] at l10
        simp [l10, jl2.lS]
        refine goT_of (stages_T w2 J.S) ?_
        by_cases h4 : (J.codes.length : Int) = stgV J.S
        · rw [if_neg (by simp [h4])] at hE
          have h4b : ((J.codes.length : Int) != stgV J.S) = false := by simp [h4]
          simp [h4b, h4, l10]
          refine code_loop w2 ok2 jl2 (by simp) (by simp [hxk]) (by simp [h4]) (by simp) ?_ ?_
          · intro tt h0
            rw [h0] at hE
            simp [hE]
            exact onH2
          · intro tt u2
            simp [u2, hE]
            exact onH2
        · rw [if_pos h4] at hE
          have h4b : ((J.codes.length : Int) != stgV J.S) = true := by simpa using h4
          simp [h4b, h4, hE, l10]
          exact onH2
      · rw [if_pos h3] at hE
        have h3b : ((cntP J.S).2 != 0) = true := by simpa using h3
        simp [h3b, h3, hE]
        exact onH2
    · rw [if_pos h2] at hE
      have h2b : (chkC J.reds != 0) = true := by simpa using h2
      simp [h2b, h2, hE]
      exact onH2
  · rw [if_pos h1] at hE
    have h1b : (ofE J.words J.cells != 0) = true := by simpa using h1
    simp [h1b, h1, hE]
    exact on.trans on1
theorem valid_T {H : Heap} (hw : H.WF) {J : Jb} (ok : JbOk H J) : T Tryz.prog 43 [.agg (jobC J).toArray] H (iv (validE J)) H := T_of_On rfl (valid_N hw ok)
structure Jb0 (H : Heap) (J : Jb) : Prop where
  xc : Twos H J.xc J.cells
  xr : Twos H J.xr J.reds
  xk : Cds H J.xk J.codes
  S : ShpOk J.S
  kinds : ∀ c ∈ J.codes, ∀ a ∈ c, I8.okI a.kind
theorem Jb0.on {H H1 : Heap} (hw : H.WF) {J : Jb} (h : Jb0 H J) (o : On H H1) : Jb0 H1 J :=
  ⟨h.xc.keep hw o.base o.keep, h.xr.keep hw o.base o.keep, h.xk.on hw o, h.S, h.kinds⟩
def greatV (J : Jb) : Bool := decide (200 < J.cells.length) || decide (50 < J.reds.length) || decide (50 < J.codes.length) || J.codes.any fun c => decide (700 < c.length)
def InvGr (H : Heap) (J : Jb) (p : Nat) (k : Nat) (t : Tm) (H1 : Heap) : Prop :=
  ∃ i : Nat, i + k = J.codes.length ∧ t 1 = ptr p ∧ t 3 = iv i ∧ ((J.codes.take i).any fun c => decide (700 < c.length)) = false ∧ H1 = H
theorem great_T {H : Heap} (hw : H.WF) {J : Jb} (ok : Jb0 H J) : T Tryz.prog 31 [.agg (jobC J).toArray] H (.bool (greatV J)) H := by
  obtain ⟨B, hB⟩ : ∃ B, B = greatV J := ⟨_, rfl⟩
  rw [← hB]
  refine T_seen hm light31 rfl ?_
  obtain ⟨G, hG⟩ : ∃ G, G = H.new 29 11 (jobC J) := ⟨_, rfl⟩
  have onG : On H G := by rw [hG]; exact (On.refl hw).new _ _ _
  have vG : Vr G H.next 29 11 (jobC J) := by rw [hG]; exact Vr.mk' hw _ _ _
  have okG := ok.on hw onG
  have jl := JL.of vG
  obtain ⟨ac, cc, hxc⟩ := ok.xc.len
  obtain ⟨ar, cr, hxr⟩ := ok.xr.len
  obtain ⟨ak, ck, hxk⟩ := ok.xk.len
  have l1 := jl.l1
  have l2 := jl.l2
  have l10 := jl.l10
  rw [hxc] at l1
  rw [hxr] at l2
  rw [hxk] at l10
  have fin := onG.keep
  unfold greatV at hB
  by_cases g1 : 200 < J.cells.length
  · have g1i : (200 : Int) < (J.cells.length : Int) := by omega
    have hB : B = true := by rw [hB]; simp [g1]
    simp [L31, ← hG, l1, g1, g1i, hB]
    exact fin
  have g1i : ¬ (200 : Int) < (J.cells.length : Int) := by omega
  by_cases g2 : 50 < J.reds.length
  · have g2i : (50 : Int) < (J.reds.length : Int) := by omega
    have hB : B = true := by rw [hB]; simp [g2]
    simp [L31, ← hG, l1, g1, g1i, l2, g2, g2i, hB]
    exact fin
  have g2i : ¬ (50 : Int) < (J.reds.length : Int) := by omega
  by_cases g3 : 50 < J.codes.length
  · have g3i : (50 : Int) < (J.codes.length : Int) := by omega
    have hB : B = true := by rw [hB]; simp [g3]
    simp [L31, ← hG, l1, g1, g1i, l2, g2, g2i, l10, g3, g3i, hB]
    exact fin
  have g3i : ¬ (50 : Int) < (J.codes.length : Int) := by omega
  have hB : B = J.codes.any fun c => decide (700 < c.length) := by rw [hB]; simp [g1, g2, g3]
  simp [L31, ← hG, l1, g1, g1i, l2, g2, g2i, l10, g3, g3i]
  refine loop_at (InvGr G J H.next) J.codes.length ?_ ?_
  · exact ⟨0, by omega, by simp, by simp, by simp, rfl⟩
  · rintro k t H1 ⟨i, hik, t1, t3, hno, rfl⟩
    cases k with
    | zero =>
      have e1 : ¬ ((i : Int) < J.codes.length) := by omega
      have e1' : ¬ i < J.codes.length := by omega
      rw [List.take_of_length_le (by omega)] at hno
      rw [hno] at hB
      simp [L31_1, t3, t1, l10, e1, e1', hB]
      exact fin
    | succ k =>
      have hil : i < J.codes.length := by omega
      have e1 : ((i : Int) < J.codes.length) := by omega
      have e4 : IntKind.i64.wrap ((i : Int) + 1) = ((i + 1 : Nat) : Int) := by rw [w64 _ (by omega)]; omega
      obtain ⟨iN, hiN⟩ : ∃ n : Nat, n = i + 1 := ⟨_, rfl⟩
      rw [← hiN] at e4
      obtain ⟨b, off, c, y, hxb, ldy, ry⟩ := okG.xk.at hil
      obtain ⟨ay, cy, hy⟩ := ry.len
      rw [List.length_map] at hy
      have l10' := jl.l10
      rw [hxb] at l10'
      rw [hy] at ldy
      have htk : ((J.codes.take iN).any fun c => decide (700 < c.length)) = decide (700 < J.codes[i].length) := by
        rw [hiN, List.take_succ_eq_append_getElem hil, List.any_append, hno]; simp
      by_cases h7 : 700 < J.codes[i].length
      · have h7i : (700 : Int) < (J.codes[i].length : Int) := by omega
        have hB : B = true := by
          rw [hB, List.any_eq_true]
          exact ⟨_, List.getElem_mem hil, by simpa using h7⟩
        simp [L31_1, t3, t1, l10', e1, hil, ldy, h7, h7i, hB]
        exact fin
      · have h7i : ¬ (700 : Int) < (J.codes[i].length : Int) := by omega
        simp [L31_1, t3, t1, l10', e1, hil, ldy, h7, h7i, e4]
        exact ⟨k, by omega, iN, by omega, by simp [t1], by simp, by rw [htk]; simp [h7], rfl⟩
end Go.Proofs.YtnomffikflfilaaGreat
