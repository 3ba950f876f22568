/-
  Chapter 25: the document's Parse; ScriptReads.
-/
import Derived.Test.YtmdlfenileiaeaaSeatV
import Derived.Test.YtmdlfenileiaeaaSeatO
namespace Go.Proofs.Ytmdlfenileiaeaa
open Go.Ot Go.ChangeShapes Go.WideShapes Go.ChangeAt Go.RowKit
set_option linter.unusedSimpArgs false
set_option linter.unusedVariables false
theorem refParse9_N {H : Heap} (hw : H.WF) (s : ByteArray) : TN Try.prog 9 [.string s] H (ParseQ H (parseP (bts s))) := by
  refine N_by hm light9 ?_
  obtain ⟨RR, hRR⟩ : ∃ R, R = parseP (bts s) := ⟨_, rfl⟩
  rw [← hRR]
  unfold parseP at hRR
  by_cases hl : 8192 < (bts s).length
  · rw [if_pos hl] at hRR
    have e1 : (8192 : Int) < (s.size : Int) := by rw [len_str]; omega
    have e1' : 8192 < s.size := by rw [← bts_len]; exact hl
    simp [L9, e1, e1']
    rw [hRR]
    exact ⟨rfl, On.refl hw⟩
  · rw [if_neg hl] at hRR
    have e1 : ¬ (8192 : Int) < (s.size : Int) := by rw [len_str]; omega
    have e1' : ¬ 8192 < s.size := by rw [← bts_len]; exact hl
    have rN := refItems_N (s := s) (by omega) 8 0 rfl H 0 hw (by omega)
    simp [L9, e1, e1']
    refine goN_of rN ?_
    rintro r H1 ⟨on1, hq⟩ w1 _ _
    have hz : [Value.string ByteArray.empty, iv 0, iv 0, iv 0] = pcs ByteArray.empty 0 0 0 := rfl
    cases hit : items (bts s) 8 0 with
    | err e w =>
      rw [hit] at hq hRR
      obtain ⟨a', rfl⟩ := hq
      simp only at hRR
      have he := items_err (bts s) 8 0 hit
      have he0 : (e == 0) = false := by simpa using he
      have he1 : (e != 0) = true := by simpa using he
      have st := new_storeA w1 71 4 (pcs ByteArray.empty 0 0 0) (pcs s a' e w) rfl rfl (by decide)
      have V1 : Vr (H1.new 71 4 (pcs s a' e w)) H1.next 71 4 (pcs s a' e w) := Vr.mk' w1 _ _ _
      have on2 : On H (H1.new 71 4 (pcs s a' e w)) := on1.new _ _ _
      obtain ⟨H2, hH2⟩ : ∃ H2, H2 = H1.new 71 4 (pcs s a' e w) := ⟨_, rfl⟩
      rw [← hH2] at st V1 on2
      have l2 : H2.load ⟨H1.next, 2, none⟩ = some (iv e) := V1.load 2
      have l3 : H2.load ⟨H1.next, 3, none⟩ = some (iv w) := V1.load 3
      simp [st, l2, l3, he0, he1, he]
      rw [hRR]
      exact ⟨rfl, on2⟩
    | ok l a =>
      rw [hit] at hq hRR
      obtain ⟨x, rfl, own, nx⟩ := hq
      simp only at hRR
      obtain ⟨ax, hx⟩ := own.len
      have hnt : notTup x = true := by rw [hx]; rfl
      have st := new_storeA w1 71 4 (pcs ByteArray.empty 0 0 0) (pcs s a 0 0) rfl rfl (by decide)
      have V1 : Vr (H1.new 71 4 (pcs s a 0 0)) H1.next 71 4 (pcs s a 0 0) := Vr.mk' w1 _ _ _
      have on2 : On H (H1.new 71 4 (pcs s a 0 0)) := on1.new _ _ _
      have own2 := Own.on w1 own ((On.refl w1).new 71 4 (pcs s a 0 0))
      have nl := on1.next
      obtain ⟨H2, hH2⟩ : ∃ H2, H2 = H1.new 71 4 (pcs s a 0 0) := ⟨_, rfl⟩
      rw [← hH2] at st V1 on2 own2
      have l1 : H2.load ⟨H1.next, 1, none⟩ = some (iv a) := V1.load 1
      have l2 : H2.load ⟨H1.next, 2, none⟩ = some (iv 0) := V1.load 2
      have lA : H2.loadN ⟨H1.next, 0, none⟩ 0 4 = some (pcs s a 0 0) := V1.loadA rfl
      by_cases hlt : a < (bts s).length
      · rw [if_pos hlt] at hRR
        have c1 : (a : Int) < (s.size : Int) := by rw [len_str]; omega
        have c1' : a < s.size := by rw [← bts_len]; exact hlt
        have fT := fail_T on2.wf s a 250 a
        have sA := V1.storeA (m := 4) (by decide) (pcs s a 250 a) rfl rfl
        have V3 := V1.put (pcs s a 250 a)
        have on3 : On H (H2.put H1.next (pcs s a 250 a)) := on2.put nl _
        obtain ⟨H3, hH3⟩ : ∃ H3, H3 = H2.put H1.next (pcs s a 250 a) := ⟨_, rfl⟩
        rw [← hH3] at sA V3 on3
        have l23 : H3.load ⟨H1.next, 2, none⟩ = some (iv 250) := V3.load 2
        have l33 : H3.load ⟨H1.next, 3, none⟩ = some (iv a) := V3.load 3
        simp [st, l1, l2, c1, c1', lA]
        refine goN_T fT ?_
        simp [sA, l23, l33]
        rw [hRR]
        exact ⟨rfl, on3⟩
      · rw [if_neg hlt] at hRR
        have c1 : ¬ (a : Int) < (s.size : Int) := by rw [len_str]; omega
        have c1' : ¬ a < s.size := by rw [← bts_len]; exact hlt
        simp [st, l1, l2, c1, c1', hnt]
        rw [hRR]
        exact ⟨x, rfl, own2, on2, nx⟩
theorem parseP_len (S : List Nat) : ∀ l a, parseP S = .ok l a → l.length ≤ 40000 := by
  intro l a h
  unfold parseP at h
  split at h
  · cases h
  · cases hi : items S 8 0 with
    | err e b => rw [hi] at h; cases h
    | ok l2 b =>
      rw [hi] at h
      simp only at h
      have := items_ok S 8 0 (by omega)
      rw [hi] at this
      split at h
      · cases h
      · cases h
        exact this.1
theorem reads_N {H : Heap} (hw : H.WF) (s : ByteArray) : TN Try.prog 3 [.string s] H (fun o H' => o = .ret (.bool true) ∧ On H H') := by
  refine N_by hm light3 ?_
  simp [L3]
  refine goN_of (parse_N hw s) ?_
  intro r H1 hq w1 b1 n1
  have pl := parseP_len (bts s)
  cases hp : parseP (bts s) with
  | err e a =>
    rw [hp] at hq
    obtain ⟨rfl, on1⟩ := hq
    simp
    refine goN_of (refParse9_N w1 s) ?_
    intro r H2 hq w2 b2 n2
    rw [hp] at hq
    obtain ⟨rfl, on2⟩ := hq
    have on := on1.trans on2
    have sT := same_T (H := H2) (x := .slice none 0 0) (y := .slice none 0 0) (l := []) (m := []) (.inl ⟨rfl, rfl⟩) (.inl ⟨rfl, rfl⟩) (by simp)
    rw [decide_eq_true rfl] at sT
    simp
    refine goN_T sT ?_
    simp
    refine goN_T (alive_T on.wf) ?_
    simp
    exact on
  | ok l a =>
    rw [hp] at hq
    have hl := pl l a hp
    obtain ⟨x, rfl, row1⟩ := hq
    obtain ⟨ax, hx⟩ := row1.own.len
    have hntx : notTup x = true := by rw [hx]; rfl
    simp [hntx]
    refine goN_of (refParse9_N w1 s) ?_
    intro r H2 hq w2 b2 n2
    rw [hp] at hq
    obtain ⟨y, rfl, row2⟩ := hq
    obtain ⟨ay, hy⟩ := row2.own.len
    have hnty : notTup y = true := by rw [hy]; rfl
    have on := row1.on.trans row2.on
    have sT := same_T ((Own.rl row1.own).on w1 row2.on) (Own.rl row2.own) (by omega)
    rw [decide_eq_true rfl] at sT
    simp [hntx, hnty]
    refine goN_T sT ?_
    simp
    refine goN_T (alive_T on.wf) ?_
    simp
    exact on
theorem reads_U {H : Heap} (hw : H.WF) (s : ByteArray) : ∃ v H', T Try.prog 3 [.string s] H v H' ∧ v = .bool true := ⟨_, _, T_of_N (reads_N hw s), rfl⟩
end Go.Proofs.Ytmdlfenileiaeaa
