/-
  Chapter 25: what a memory begins with, by both: mem.Of, the document's Of.
-/
import Derived.Test.YtmdlfenileiaeaaSeatBD
namespace Go.Proofs.Ytmdlfenileiaeaa
open Go.Ot Go.RowKit
open R14 (Twos)
set_option linter.unusedSimpArgs false
set_option linter.unusedVariables false
def ofGo (w : Int) : List (Int × Int) → List Int → Int
  | [], _ => 0
  | c :: l, seen => if c.1 < 0 ∨ w ≤ c.1 then 131 else if c.1 ∈ seen then 61 else ofGo w l (seen ++ [c.1])
def ofE (w : Int) (l : List (Int × Int)) : Int := if w < 1 ∨ 64 < w then 130 else ofGo w l []
def OfQ (H : Heap) (E : Int) (o : Out) (H' : Heap) : Prop := (∃ a n c, o = .ret (.tuple #[.slice a n c, iv E])) ∧ On H H'
def cells64 (s : List Int) : List Value := (List.range 64).map fun (j : Nat) => .bool (decide ((j : Int) ∈ s))
theorem cells64_len (s : List Int) : (cells64 s).length = 64 := by simp [cells64]
theorem cells64_get (s : List Int) {j : Nat} (hj : j < 64) : (cells64 s)[j]? = some (.bool (decide ((j : Int) ∈ s))) := by simp [cells64, hj]
theorem cells64_set (s : List Int) {j : Nat} (hj : j < 64) : (cells64 s).set j (.bool true) = cells64 (s ++ [(j : Int)]) := by
  apply List.ext_getElem?
  intro i
  by_cases hi : i < 64
  · by_cases h : j = i
    · subst h
      rw [List.getElem?_set_self (by rw [cells64_len]; exact hj), cells64_get _ hi]
      simp
    · rw [List.getElem?_set_ne h, cells64_get _ hi, cells64_get _ hi]
      have : ¬ (i : Int) = (j : Int) := by omega
      simp [this]
  · rw [List.getElem?_eq_none (by rw [List.length_set, cells64_len]; omega), List.getElem?_eq_none (by rw [cells64_len]; omega)]
theorem twos_rws {H : Heap} {x : Value} {l : List (Int × Int)} (h : Twos H x l) {i : Nat} (hi : i < l.length) : ∃ b off c, x = .slice (some ⟨b, off, none⟩) l.length c ∧ H.loadN ⟨b, off + i * 2, none⟩ 0 2 = some [iv l[i].1, iv l[i].2] ∧ H.load ⟨b, off + i * 2, none⟩ = some (iv l[i].1) := by
  obtain ⟨b, off, c, hx, h1, h2⟩ := h.at hi
  refine ⟨b, off, c, hx, ?_, h1⟩
  have := loadN_cells (H := H) (b := b) (off := off + i * 2) (l := [iv l[i].1, iv l[i].2]) (i := 0) (fun j hj => by
    have hj2 : j < 2 := by simpa using hj
    rcases j with - | - | j
    · exact h1
    · exact h2
    · omega)
  simpa using this
def InvOf (H : Heap) (w : Int) (wn : Nat) (x : Value) (l : List (Int × Int)) (E : Int) (q1 q2 : Nat) (k : Nat) (t : Tm) (H1 : Heap) : Prop :=
  ∃ (i : Nat) (cs : List Value), i + k = l.length ∧ t 0 = iv w ∧ t 6 = .slice (some ⟨q1, 0, none⟩) wn 0 ∧ t 7 = ptr q2 ∧ t 18 = x ∧ t 19 = iv l.length ∧ t 20 = iv i ∧ On H H1 ∧ Vr H1 q1 2 1 cs ∧ cs.length = wn ∧ Vr H1 q2 126 64 (cells64 ((l.take i).map Prod.fst)) ∧ ofGo w (l.drop i) ((l.take i).map Prod.fst) = E
theorem memOf_N {H : Heap} (hw : H.WF) (w : Int) {x : Value} {l : List (Int × Int)} (hx : Twos H x l) (hl : l.length ≤ 100000) : TN Try.prog 51 [iv w, x] H (OfQ H (ofE w l)) := by
  refine N_by hm light51 ?_
  obtain ⟨ax, cx, hxv⟩ := hx.len
  by_cases w1 : w < 1
  · have hE : ofE w l = 130 := by unfold ofE; rw [if_pos (.inl w1)]
    rw [hE]
    simp [L51, w1]
    exact ⟨⟨_, _, _, rfl⟩, On.refl hw⟩
  by_cases w64' : 64 < w
  · have hE : ofE w l = 130 := by unfold ofE; rw [if_pos (.inr w64')]
    rw [hE]
    simp [L51, w1, w64']
    exact ⟨⟨_, _, _, rfl⟩, On.refl hw⟩
  obtain ⟨E, hE⟩ : ∃ E, E = ofE w l := ⟨_, rfl⟩
  rw [← hE]
  unfold ofE at hE
  rw [if_neg (by omega)] at hE
  obtain ⟨wn, hwn⟩ : ∃ wn, wn = w.toNat := ⟨_, rfl⟩
  have ewn : w = (wn : Int) := by omega
  have mk : sMake H 2 1 8 [iv 0] (iv w) (iv w) = some (.slice (some ⟨H.next, 0, none⟩) wn 0, H.new 2 1 (zerosA [iv 0] wn)) := by
    have h1 : 0 ≤ w ∧ w ≤ w ∧ (8 : Nat) * w ≤ 140737488355328 ∧ w ≤ 9223372036854775807 := by omega
    simp only [sMake, hwn]
    rw [if_pos (by simpa using h1)]
    simp
  have hz : (zerosA [iv 0] wn).length = wn := by rw [zerosA_one]; simp
  obtain ⟨HA, hHA⟩ : ∃ HA, HA = H.new 2 1 (zerosA [iv 0] wn) := ⟨_, rfl⟩
  have onA : On H HA := by rw [hHA]; exact (On.refl hw).new _ _ _
  have VA : Vr HA H.next 2 1 (zerosA [iv 0] wn) := by rw [hHA]; exact Vr.mk' hw _ _ _
  have nA : HA.next = H.next + 1 := by rw [hHA]; simp
  have hc0 : cells64 [] = List.replicate 64 (.bool false) := by simp [cells64]; rfl
  obtain ⟨HB, hHB⟩ : ∃ HB, HB = HA.new 126 64 (List.replicate 64 (.bool false)) := ⟨_, rfl⟩
  have onB : On H HB := by rw [hHB]; exact onA.new _ _ _
  have VB : Vr HB (H.next + 1) 126 64 (cells64 []) := by rw [hHB, ← nA, hc0]; exact Vr.mk' onA.wf _ _ _
  have VA2 : Vr HB H.next 2 1 (zerosA [iv 0] wn) := by rw [hHB]; exact VA.new onA.wf _ _ _
  simp only [List.replicate] at hHB
  rw [← hHA] at mk
  rw [hxv]
  simp [L51, w1, w64', mk, ← hHB, nA]
  rw [← hxv]
  refine loopN_at (InvOf H w wn x l E H.next (H.next + 1)) l.length ?_ ?_
  · exact ⟨0, _, by omega, by simp, by simp, by simp, by simp, by simp, by simp, onB, VA2, hz, by simpa using VB, by simpa using hE.symm⟩
  · rintro k t H1 ⟨i, cs, hik, t0, t6, t7, t18, t19, t20, on, V1, hcs, V2, hgo⟩
    cases k with
    | zero =>
      have ei : l.drop i = [] := List.drop_eq_nil_iff.2 (by omega)
      rw [ei] at hgo
      have hE0 : E = 0 := hgo.symm
      have e1 : ¬ ((i : Int) < l.length) := by omega
      have e1' : ¬ i < l.length := by omega
      simp [L51_1, t20, t19, e1, e1', t6]
      rw [hE0]
      exact ⟨⟨_, _, _, rfl⟩, on⟩
    | succ k =>
      have hil : i < l.length := by omega
      have e1 : ((i : Int) < l.length) := by omega
      have e4 : IntKind.i64.wrap ((i : Int) + 1) = ((i + 1 : Nat) : Int) := by rw [w64 _ (by omega)]; omega
      obtain ⟨iN, hiN⟩ : ∃ n : Nat, n = i + 1 := ⟨_, rfl⟩
      rw [← hiN] at e4
      have hx1 := hx.keep hw on.base on.keep
      obtain ⟨b, off, c, hxb, ldx, _⟩ := twos_rws hx1 hil
      rw [List.drop_eq_getElem_cons hil, ofGo, ← hiN] at hgo
      have htk : (l.take iN).map Prod.fst = (l.take i).map Prod.fst ++ [l[i].1] := by rw [hiN, List.take_succ_eq_append_getElem hil, List.map_append]; rfl
      obtain ⟨e, he⟩ : ∃ e, e = l[i] := ⟨_, rfl⟩
      rw [← he] at ldx hgo htk
      have t18' := t18
      rw [hxb] at t18
      have st := new_storeA on.wf 128 2 [iv 0, iv 0] [iv e.1, iv e.2] rfl rfl (by decide)
      have VE : Vr (H1.new 128 2 [iv e.1, iv e.2]) H1.next 128 2 [iv e.1, iv e.2] := Vr.mk' on.wf _ _ _
      have V1' := V1.new on.wf 128 2 [iv e.1, iv e.2]
      have V2' := V2.new on.wf 128 2 [iv e.1, iv e.2]
      have on2 : On H (H1.new 128 2 [iv e.1, iv e.2]) := on.new _ _ _
      have l1n := on.wf.lt V1.bq
      have l2n := on.wf.lt V2.bq
      obtain ⟨p, hp⟩ : ∃ p, p = H1.next := ⟨_, rfl⟩
      obtain ⟨H2, hH2⟩ : ∃ H2, H2 = H1.new 128 2 [iv e.1, iv e.2] := ⟨_, rfl⟩
      rw [← hH2, ← hp] at st VE
      rw [← hH2] at V1' V2' on2
      rw [← hp] at l1n l2n
      have f0 : H2.load ⟨p, 0, none⟩ = some (iv e.1) := VE.load 0
      have f1 : H2.load ⟨p, 1, none⟩ = some (iv e.2) := VE.load 1
      by_cases e0 : e.1 < 0
      · rw [if_pos (.inl e0)] at hgo
        simp [L51_1, t20, t19, e1, hil, t18, ldx, st, ← hp, f0, e0]
        rw [← hgo]
        exact ⟨⟨_, _, _, rfl⟩, on2⟩
      by_cases ew : w ≤ e.1
      · rw [if_pos (.inr ew)] at hgo
        simp [L51_1, t20, t19, e1, hil, t18, ldx, st, ← hp, f0, e0, t0, ew]
        rw [← hgo]
        exact ⟨⟨_, _, _, rfl⟩, on2⟩
      rw [if_neg (by omega)] at hgo
      obtain ⟨j, hj⟩ : ∃ j, j = e.1.toNat := ⟨_, rfl⟩
      have ej : e.1 = (j : Int) := by omega
      have hj64 : j < 64 := by omega
      have hjw : j < wn := by omega
      have hjwI : (j : Int) < (wn : Int) := by omega
      rw [ej] at f0 e0 ew hgo htk
      have ix : sIdxArr 64 1 (ptr (H.next + 1)) (iv j) = some (.pointer (some ⟨H.next + 1, j, none⟩)) := by
        have c1 : (0 : Int) ≤ j ∧ (j : Int) < 64 := by omega
        simp [sIdxArr, c1, add_own, hj64]
      have ldj : H2.load ⟨H.next + 1, j, none⟩ = some (.bool (decide ((j : Int) ∈ (l.take i).map Prod.fst))) := by rw [V2'.load j, cells64_get _ hj64]
      by_cases hs : (j : Int) ∈ (l.take i).map Prod.fst
      · rw [if_pos hs] at hgo
        rw [decide_eq_true hs] at ldj
        simp [L51_1, t20, t19, e1, hil, t18, ldx, st, ← hp, f0, e0, t0, ew, t7, ix, ldj]
        rw [← hgo]
        exact ⟨⟨_, _, _, rfl⟩, on2⟩
      · rw [if_neg hs] at hgo
        rw [decide_eq_false hs] at ldj
        have stj : H2.store ⟨H.next + 1, j, none⟩ (.bool true) = some (H2.put (H.next + 1) (cells64 ((l.take iN).map Prod.fst))) := by
          rw [V2'.store j _ (by rw [cells64_len]; exact hj64), cells64_set _ hj64, htk]
        have V3 := V2'.put (cells64 ((l.take iN).map Prod.fst))
        have V13 := V1'.beside (show H.next ≠ H.next + 1 by omega) (cells64 ((l.take iN).map Prod.fst))
        have VE3 := VE.beside (show p ≠ H.next + 1 by omega) (cells64 ((l.take iN).map Prod.fst))
        have on3 : On H (H2.put (H.next + 1) (cells64 ((l.take iN).map Prod.fst))) := on2.put (by omega) _
        obtain ⟨H3, hH3⟩ : ∃ H3, H3 = H2.put (H.next + 1) (cells64 ((l.take iN).map Prod.fst)) := ⟨_, rfl⟩
        rw [← hH3] at stj V3 V13 VE3 on3
        have f03 : H3.load ⟨p, 0, none⟩ = some (iv j) := by rw [← ej]; exact VE3.load 0
        have f13 : H3.load ⟨p, 1, none⟩ = some (iv e.2) := VE3.load 1
        have sto : H3.store ⟨H.next, j, none⟩ (iv e.2) = some (H3.put H.next (cs.set j (iv e.2))) := V13.store j _ (by omega)
        simp [L51_1, t20, t19, e1, hil, t18, ldx, st, ← hp, f0, e0, t0, ew, t7, ix, ldj, stj, t6, f03, f13, hjw, hjwI, sto, e4]
        exact ⟨k, by omega, iN, _, by omega, by simp [t0], by simp [t6], by simp [t7], by simp [t18'], by simp [t19], by simp, on3.put (Nat.le_refl _) _, V13.put _, by simp [hcs], V3.beside (show H.next + 1 ≠ H.next by omega) _, by rw [htk]; exact hgo⟩
/-! ### the document's -/
def lastV (l : List (Int × Int)) (n : Int) : Nat → Int × Bool
  | 0 => (0, false)
  | k + 1 => if (l.getD k (0, 0)).1 = n then ((l.getD k (0, 0)).2, true) else lastV l n k
theorem lastV_iff (l : List (Int × Int)) (n : Int) : ∀ k, k ≤ l.length → ((lastV l n k).2 = true ↔ n ∈ (l.take k).map Prod.fst)
  | 0, _ => by simp [lastV]
  | k + 1, hk => by
    have hk' : k < l.length := by omega
    have e : l.getD k (0, 0) = l[k] := by simp [List.getD, hk']
    rw [lastV, e, List.take_succ_eq_append_getElem hk', List.map_append, List.mem_append, ← lastV_iff l n k (by omega)]
    by_cases h : l[k].1 = n
    · simp [h]
    · rw [if_neg h]
      simp [Ne.symm h]
def InvLs (H : Heap) (x : Value) (l : List (Int × Int)) (n : Int) (k : Nat) (t : Tm) (H1 : Heap) : Prop :=
  ∃ i : Nat, i = k ∧ i ≤ l.length ∧ t 0 = x ∧ t 1 = iv n ∧ t 6 = iv ((i : Int) - 1) ∧ lastV l n i = lastV l n l.length ∧ H1 = H
theorem last_T {H : Heap} {x : Value} {l : List (Int × Int)} (hx : Twos H x l) (hl : l.length ≤ 100000) (n : Int) : T Try.prog 66 [x, iv n] H (.tuple #[iv (lastV l n l.length).1, .bool (lastV l n l.length).2]) H := by
  obtain ⟨R, hR⟩ : ∃ R, R = lastV l n l.length := ⟨_, rfl⟩
  rw [← hR]
  refine T_eq hm light66 ?_
  obtain ⟨ax, cx, hxv⟩ := hx.len
  have w1 : IntKind.i64.wrap ((l.length : Int) - 1) = (l.length : Int) - 1 := w64 _ (by omega)
  rw [hxv]
  simp [L66, w1]
  rw [← hxv]
  refine loop_at (InvLs H x l n) l.length ?_ ?_
  · exact ⟨l.length, rfl, Nat.le_refl _, by simp, by simp, by simp, rfl, rfl⟩
  · rintro k t H1 ⟨i, rfl, hil, t0, t1, t6, hla, rfl⟩
    cases i with
    | zero =>
      have hla : lastV l n 0 = R := by rw [hla, hR]
      have : R = (0, false) := hla.symm
      have c1 : ¬ (0 : Int) ≤ ((0 : Nat) : Int) - 1 := by omega
      rw [this]
      simp [L66_1, t6]
    | succ k =>
      have hk : k < l.length := by omega
      have hkI : (k : Int) < (l.length : Int) := by omega
      have e1 : ((k + 1 : Nat) : Int) - 1 = (k : Int) := by omega
      rw [e1] at t6
      have w2 : IntKind.i64.wrap ((k : Int) - 1) = (k : Int) - 1 := w64 _ (by omega)
      have e : l.getD k (0, 0) = l[k] := by simp [List.getD, hk]
      rw [lastV, e] at hla
      obtain ⟨b, off, c, hxb, l0, l1⟩ := hx.at hk
      have t0' := t0
      rw [hxb] at t0
      by_cases h : l[k].1 = n
      · rw [if_pos h, ← hR] at hla
        rw [h] at l0
        rw [← hla]
        simp [L66_1, t6, t0, hk, hkI, l0, t1, l1]
      · rw [if_neg h] at hla
        have hb : (l[k].1 == n) = false := by simpa using h
        simp [L66_1, t6, t0, hk, hkI, l0, t1, hb, w2]
        exact ⟨k, by omega, k, rfl, by omega, by simp [t0'], by simp [t1], by simp, hla, rfl⟩
theorem twos_take {H : Heap} {x : Value} {l : List (Int × Int)} (h : Twos H x l) {j : Nat} (hj : j ≤ l.length) : ∃ y, sSlice 2 x none (some (iv j)) none = some y ∧ Twos H y (l.take j) := by
  rcases h with ⟨rfl, rfl⟩ | ⟨b, off, c, rfl, hh⟩
  · have hj0 : j = 0 := by simpa using hj
    subst hj0
    exact ⟨.slice none 0 0, by simp [sSlice, bnd], .inl ⟨rfl, by simp⟩⟩
  · have hlen : (l.take j).length = j := by rw [List.length_take]; omega
    obtain ⟨c', hc'⟩ : ∃ c', sSlice 2 (.slice (some ⟨b, off, none⟩) l.length c) none (some (iv j)) none = some (.slice (some ⟨b, off, none⟩) j c') := by
      simp only [sSlice, bnd]
      simp [hj, add_own]
    refine ⟨_, hc', .inr ⟨b, off, c', by rw [hlen], fun k hk => ?_⟩⟩
    rw [hlen] at hk
    have := hh k (by omega)
    simp only [List.getElem_take]
    exact this
def InvO1 (H : Heap) (w : Int) (x : Value) (l : List (Int × Int)) (E : Int) (k : Nat) (t : Tm) (H1 : Heap) : Prop :=
  ∃ i : Nat, i + k = l.length ∧ t 0 = iv w ∧ t 1 = x ∧ t 6 = iv i ∧ ofGo w (l.drop i) ((l.take i).map Prod.fst) = E ∧ H1 = H
def InvO2 (H : Heap) (w : Int) (wn : Nat) (x : Value) (k : Nat) (t : Tm) (H1 : Heap) : Prop :=
  ∃ (i : Nat) (cells : List Value) (y : Value), i + k = wn ∧ t 0 = iv w ∧ t 1 = x ∧ t 9 = y ∧ t 10 = iv i ∧ Row H H1 2 1 i cells y
theorem refOf_N {H : Heap} (hw : H.WF) (w : Int) {x : Value} {l : List (Int × Int)} (hx : Twos H x l) (hl : l.length ≤ 100000) : TN Try.prog 55 [iv w, x] H (OfQ H (ofE w l)) := by
  refine N_by hm light55 ?_
  obtain ⟨ax, cx, hxv⟩ := hx.len
  by_cases w1 : w < 1
  · have hE : ofE w l = 130 := by unfold ofE; rw [if_pos (.inl w1)]
    rw [hE]
    simp [L55, w1]
    exact ⟨⟨_, _, _, rfl⟩, On.refl hw⟩
  by_cases w64' : 64 < w
  · have hE : ofE w l = 130 := by unfold ofE; rw [if_pos (.inr w64')]
    rw [hE]
    simp [L55, w1, w64']
    exact ⟨⟨_, _, _, rfl⟩, On.refl hw⟩
  obtain ⟨E, hE⟩ : ∃ E, E = ofE w l := ⟨_, rfl⟩
  rw [← hE]
  unfold ofE at hE
  rw [if_neg (by omega)] at hE
  obtain ⟨wn, hwn⟩ : ∃ wn, wn = w.toNat := ⟨_, rfl⟩
  have ewn : w = (wn : Int) := by omega
  simp [L55, w1, w64']
  refine loopN_at (InvO1 H w x l E) l.length ?_ ?_
  · exact ⟨0, by omega, by simp, by simp, by simp, by simpa using hE.symm, rfl⟩
  · rintro k t H1 ⟨i, hik, t0, t1, t6, hgo, rfl⟩
    have t1' := t1
    cases k with
    | zero =>
      have ei : l.drop i = [] := List.drop_eq_nil_iff.2 (by omega)
      rw [ei] at hgo
      have hE0 : E = 0 := hgo.symm
      have e1 : ¬ ((i : Int) < l.length) := by omega
      have e1' : ¬ i < l.length := by omega
      rw [hxv] at t1
      simp [L55_1, t6, t1, e1, e1']
      refine loopN_at (InvO2 H1 w wn x) wn ?_ ?_
      · exact ⟨0, [], .slice none 0 0, by omega, by simp [t0], by simp [t1'], by simp, by simp, Row.nil hw _ _⟩
      · rintro k2 tt H2 ⟨j, cells, y, hjk, u0, u1, u9, u10, row⟩
        obtain ⟨ay, hy⟩ := row.own.len
        cases k2 with
        | zero =>
          have c1 : ¬ (j : Int) < w := by omega
          rw [hy] at u9
          simp [L55_2, u10, u0, c1, u9]
          rw [hE0]
          exact ⟨⟨_, _, _, rfl⟩, row.on⟩
        | succ k2 =>
          have c1 : (j : Int) < w := by omega
          have e5 : IntKind.i64.wrap ((j : Int) + 1) = ((j + 1 : Nat) : Int) := by rw [w64 _ (by omega)]; omega
          obtain ⟨jN, hjN⟩ : ∃ m : Nat, m = j + 1 := ⟨_, rfl⟩
          rw [← hjN] at e5
          have lT := last_T (hx.keep hw row.on.base row.on.keep) hl (j : Int)
          obtain ⟨v, hv⟩ : ∃ v, v = (lastV l (j : Int) l.length).1 := ⟨_, rfl⟩
          rw [← hv] at lT
          obtain ⟨z, H3, ap, row3⟩ := row_push 8 row (e := [iv v]) rfl (by decide) (by omega)
          have hz2 : zerosA [iv 0] 1 = [iv 0] := rfl
          rw [← hjN] at row3
          simp [L55_2, u10, u0, c1, u1]
          refine goN_T lT ?_
          simp [u9, hz2, ap, u10, e5]
          exact ⟨k2, by omega, jN, _, z, by omega, by simp [u0], by simp [u1], by simp, by simp, row3⟩
    | succ k =>
      have hil : i < l.length := by omega
      have e1 : ((i : Int) < l.length) := by omega
      have e4 : IntKind.i64.wrap ((i : Int) + 1) = ((i + 1 : Nat) : Int) := by rw [w64 _ (by omega)]; omega
      obtain ⟨iN, hiN⟩ : ∃ n : Nat, n = i + 1 := ⟨_, rfl⟩
      rw [← hiN] at e4
      obtain ⟨b, off, c, hxb, ld0, _⟩ := hx.at hil
      rw [List.drop_eq_getElem_cons hil, ofGo, ← hiN] at hgo
      have htk : (l.take iN).map Prod.fst = (l.take i).map Prod.fst ++ [l[i].1] := by rw [hiN, List.take_succ_eq_append_getElem hil, List.map_append]; rfl
      obtain ⟨y, hy, ty⟩ := twos_take hx (j := i) (by omega)
      have lT := last_T ty (by rw [List.length_take]; omega) l[i].1
      have hiff := lastV_iff (l.take i) l[i].1 (l.take i).length (Nat.le_refl _)
      rw [List.take_length] at hiff
      obtain ⟨e, he⟩ : ∃ e, e = l[i] := ⟨_, rfl⟩
      rw [← he] at ld0 hgo htk lT hiff
      rw [hxb] at t1 hy
      by_cases e0 : e.1 < 0
      · rw [if_pos (.inl e0)] at hgo
        simp [L55_1, t6, t1, e1, hil, ld0, e0]
        rw [← hgo]
        exact ⟨⟨_, _, _, rfl⟩, On.refl hw⟩
      by_cases ew : w ≤ e.1
      · rw [if_pos (.inr ew)] at hgo
        simp [L55_1, t6, t1, e1, hil, ld0, e0, t0, ew]
        rw [← hgo]
        exact ⟨⟨_, _, _, rfl⟩, On.refl hw⟩
      rw [if_neg (by omega)] at hgo
      obtain ⟨R, hR⟩ : ∃ R, R = lastV (l.take i) e.1 (l.take i).length := ⟨_, rfl⟩
      rw [← hR] at lT hiff
      obtain ⟨R1, R2⟩ := R
      simp only at lT hiff
      by_cases hs : e.1 ∈ (l.take i).map Prod.fst
      · rw [if_pos hs] at hgo
        have h2 : R2 = true := hiff.2 hs
        rw [h2] at lT
        simp [L55_1, t6, t1, e1, hil, ld0, e0, t0, ew, hy]
        refine goT_of lT ?_
        simp
        rw [← hgo]
        exact ⟨⟨_, _, _, rfl⟩, On.refl hw⟩
      · rw [if_neg hs] at hgo
        have h2 : R2 = false := by
          cases R2 with
          | false => rfl
          | true => exact absurd (hiff.1 rfl) hs
        rw [h2] at lT
        simp [L55_1, t6, t1, e1, hil, ld0, e0, t0, ew, hy]
        refine goT_of lT ?_
        simp [t6, e4]
        exact ⟨k, by omega, iN, by omega, by simp [t0], by simp [t1', hxb], by simp, by rw [htk]; exact hgo, rfl⟩
end Go.Proofs.Ytmdlfenileiaeaa
