/-
  The document's bytes of all things; PackLays.
-/
import Derived.Test.YtpcgganldmmpoaaSeatW
namespace Go.Proofs.Ytpcgganldmmpoaa
open Go.Ot Go.ChangeShapes Go.WideShapes Go.ChangeAt Go.RowKit
set_option linter.unusedSimpArgs false
set_option linter.unusedVariables false
theorem OG.cat {H H1 H2 : Heap} {w e : List Nat} {y v : Value} (a : OG H H1 (.slice none 0 0) w y) (g : OG H1 H2 (.slice none 0 0) e v) (hl : w.length + e.length ≤ 140737488355328) :
    ∃ a' HA, sAppend H2 5 1 1 y v = some (.slice a' (w.length + e.length) 0, HA) ∧ OG H HA (.slice none 0 0) (w ++ e) (.slice a' (w.length + e.length) 0) := by
  have a2 := a.beside g.base g.next g.wf (OG.olds g)
  obtain ⟨a', HA, h1, h2⟩ := OG.pour a2.wf a2.own (own_bs g.own).src hl
  exact ⟨a', HA, h1, a2.trans h2⟩
def InvWi (H : Heap) (x : Value) (n i0 : Nat) (w : List Nat) (l : List Int) (k : Nat) (t : Tm) (H1 : Heap) : Prop :=
  ∃ (j : Nat) (y : Value), j + k = l.length ∧ t 0 = x ∧ t 3 = y ∧ t 4 = .int .i64 (i0 : Nat) ∧ t 6 = .int .i64 (j : Nat) ∧ OG H H1 (.slice none 0 0) (w ++ encIs (l.take j)) y
def InvWt (H : Heap) (x : Value) (l : List It) (k : Nat) (t : Tm) (H1 : Heap) : Prop :=
  ∃ (i : Nat) (y : Value), i + k = l.length ∧ t 0 = x ∧ t 3 = y ∧ t 4 = .int .i64 (i : Nat) ∧ OG H H1 (.slice none 0 0) (encIts (l.take i)) y
theorem want_T {H : Heap} (hw : H.WF) {x : Value} {l : List It} (h : Items H x l) (hs : smallB l = true) : ∃ v H', T Try.prog 12 [x] H v H' ∧ OG H H' (.slice none 0 0) (encIts l) v := by
  refine T_by hm light12 ?_
  obtain ⟨xa, xc, hxl⟩ := h.len
  obtain ⟨h64, hsm⟩ := small_of hs
  have hok := h.ok
  simp [L12]
  refine loop_at (InvWt H x l) l.length ?_ ?_
  · exact ⟨0, _, by omega, by simp, by simp, by simp, OG.same0 hw⟩
  · rintro k t H1 ⟨i, y, hik, t0, t3, t4, a⟩
    have hlen : ∀ i, (encIts (l.take i)).length ≤ 3000 * 64 := by
      intro i
      have := encIts_len (l := l.take i) (fun b hb => hok b (List.mem_of_mem_take hb)) (fun b hb => hsm b (List.mem_of_mem_take hb))
      have h3 : (l.take i).length ≤ 64 := by simp; omega
      exact Nat.le_trans this (Nat.mul_le_mul_left _ h3)
    cases k with
    | zero =>
      have e0 : i = l.length := by omega
      subst e0
      rw [List.take_length] at a
      obtain ⟨ya, hya⟩ := a.own.len
      rw [hxl] at t0
      simp [L12_2, t0, t3, t4]
      subst hya
      simp
      exact a
    | succ k =>
      have hi : i < l.length := by omega
      obtain ⟨b, off, c, hx, hk, l0, l1, l2, l3, l4, l5⟩ := (h.keep a.base).at hi
      have e3 : IntKind.i64.wrap ((i : Int) + 1) = ((i + 1 : Nat) : Int) := by rw [w64 _ (by omega)]; omega
      obtain ⟨i1, hi1⟩ : ∃ i1, i1 = i + 1 := ⟨_, rfl⟩
      rw [← hi1] at e3
      have hli := hlen i
      have hki := hsm _ (List.getElem_mem hi)
      have en : encIts (l.take i1) = encIts (l.take i) ++ encIt l[i] := by rw [hi1, List.take_succ_eq_append_getElem hi, encIts_append]; simp [encIts]
      obtain ⟨w, hw0⟩ : ∃ w, w = encIts (l.take i) := ⟨_, rfl⟩
      rw [← hw0] at en a hli
      have fin : ∀ (t' : Tm) (H2 : Heap) (x2 : Value), OG H H2 (.slice none 0 0) (w ++ encIt l[i]) x2 → t' 0 = x → t' 3 = x2 → t' 4 = .int .i64 (i1 : Nat) → ∃ m, m < k + 1 ∧ InvWt H x l m t' H2 :=
        fun t' H2 x2 a2 g0 g3 g4 => ⟨k, Nat.lt_succ_self k, i1, x2, by omega, g0, g3, g4, by rw [en]; exact a2⟩
      have hkl : kindN l[i].kind < 5 := by unfold kindN; omega
      have hle := encIt_len hk hki
      simp [L12_2, t0, t4, hx, hi, l0]
      refine goT_of (kind_T _ hk.kind) ?_
      by_cases k0' : kindN l[i].kind = 0
      · have ee : encIt l[i] = encU l[i].u := by simp [encIt, k0']
        rw [ee] at hle fin
        obtain ⟨v2, H2, T2, g⟩ := uintR_T a.wf hk.u
        obtain ⟨a', HA, ap, a3⟩ := a.cat g (by omega)
        simp [k0', t0, t3, t4, hx, hi, l1]
        refine goT_of T2 ?_
        simp [ap, t4, e3]
        rw [← hx]
        exact fin _ _ _ a3 (by simp [t0, hx]) (by simp) (by simp)
      by_cases k1 : kindN l[i].kind = 1
      · have ee : encIt l[i] = encU (zz l[i].n) := by simp [encIt, k1]
        rw [ee] at hle fin
        obtain ⟨v2, H2, T2, g⟩ := intR_T a.wf hk.n
        obtain ⟨a', HA, ap, a3⟩ := a.cat g (by omega)
        simp [k1, t0, t3, t4, hx, hi, l2]
        refine goT_of T2 ?_
        simp [ap, t4, e3]
        rw [← hx]
        exact fin _ _ _ a3 (by simp [t0, hx]) (by simp) (by simp)
      by_cases k2 : kindN l[i].kind = 2
      · have ee : encIt l[i] = [if l[i].is then 1 else 0] := by simp [encIt, k2]
        rw [ee] at hle fin
        cases his : l[i].is with
        | true =>
          rw [his] at l3 fin
          obtain ⟨HA, ap, a3⟩ := OG.push a.wf a.own 1 (by omega)
          have ap' : sAppend (H1.new 5 1 [.int .u8 1]) 5 1 1 y (.slice (some ⟨H1.next, 0, none⟩) 1 0) = _ := ap
          simp [k2, t0, t3, t4, hx, hi, l3, zerosA, ap', e3]
          rw [← hx]
          exact fin _ _ _ (a.trans a3) (by simp [t0, hx]) (by simp) (by simp)
        | false =>
          rw [his] at l3 fin
          obtain ⟨HA, ap, a3⟩ := OG.push a.wf a.own 0 (by omega)
          have ap' : sAppend (H1.new 5 1 [.int .u8 0]) 5 1 1 y (.slice (some ⟨H1.next, 0, none⟩) 1 0) = _ := ap
          simp [k2, t0, t3, t4, hx, hi, l3, zerosA, ap', e3]
          rw [← hx]
          exact fin _ _ _ (a.trans a3) (by simp [t0, hx]) (by simp) (by simp)
      by_cases k3 : kindN l[i].kind = 3
      · have ee : encIt l[i] = encU l[i].s.size ++ sb l[i].s := by simp [encIt, k3]
        rw [ee] at hle fin
        rw [List.length_append] at hle
        have hsl := sb_len l[i].s
        have c1 : IntKind.u64.wrap (l[i].s.size : Int) = (l[i].s.size : Int) := wu64 _ (by omega)
        obtain ⟨v2, H2, T2, g⟩ := uintR_T a.wf (n := l[i].s.size) (by omega)
        obtain ⟨a', HA, ap, a3⟩ := a.cat g (by omega)
        have hb3 : b < HA.B ∨ True := .inr trivial
        have l4' : HA.load ⟨b, off + i * 6 + 4, none⟩ = some (.string l[i].s) := by
          obtain ⟨b', off', c', hx', _, _, _, _, _, q4, _⟩ := (h.keep a3.base).at hi
          rw [hx] at hx'
          simp only [Value.slice.injEq, Option.some.injEq, Addr.mk.injEq, and_true, true_and] at hx'
          obtain ⟨⟨rfl, rfl⟩, rfl⟩ := hx'
          exact q4
        obtain ⟨a4', HB, ap4, a4⟩ := OG.pour a3.wf a3.own (y := .string l[i].s) (l2 := sb l[i].s) (by rw [srcCells_string, bytesV_sb, sb_len]) (by rw [List.length_append]; omega)
        have e9 : (w ++ encU l[i].s.size).length = w.length + (encU l[i].s.size).length := List.length_append
        rw [e9] at ap4 a4
        obtain ⟨m3, hm3⟩ : ∃ m, m = w.length + (encU l[i].s.size).length := ⟨_, rfl⟩
        rw [← hm3] at ap ap4 a4
        rw [← hm3] at a3
        simp [k3, t0, t3, t4, hx, hi, l4, c1]
        refine goT_of T2 ?_
        simp [ap, t0, t4, hx, hi, l4', ap4, e3]
        rw [← hx]
        refine fin _ _ _ ?_ (by simp [t0, hx]) (by simp; rfl) (by simp)
        have := a3.trans a4
        rw [List.append_assoc] at this
        exact this
      · have ee : encIt l[i] = encU l[i].l.length ++ encIs l[i].l := by simp [encIt, k0', k1, k2, k3]
        rw [ee] at hle fin
        rw [List.length_append] at hle
        obtain ⟨za, zc, hz⟩ := hk.x.len
        have c1 : IntKind.u64.wrap (l[i].l.length : Int) = (l[i].l.length : Int) := wu64 _ (by omega)
        obtain ⟨v2, H2, T2, g⟩ := uintR_T a.wf (n := l[i].l.length) (by omega)
        obtain ⟨a', HA, ap, a3⟩ := a.cat g (by omega)
        rw [hz] at l5
        simp [k0', k1, k2, k3, t0, t3, t4, hx, hi, l5, c1]
        refine goT_of T2 ?_
        simp [ap, t0, t4, hx]
        rw [← hx]
        refine loop_at (InvWi H x l.length i (w ++ encU l[i].l.length) l[i].l) l[i].l.length ?_ ?_
        · exact ⟨0, .slice a' (w.length + (encU l[i].l.length).length) 0, by omega, by simp [t0, hx], by simp, by simp [t4], by simp, by rw [List.take_zero, show encIs [] = [] from rfl, List.append_nil]; exact a3⟩
        · rintro k2 t H3 ⟨j, y3, hjk, t0, t3, t4, t6, g3⟩
          obtain ⟨b', off', c', hx', hk', _, _, _, _, _, q5⟩ := (h.keep g3.base).at hi
          rw [hx] at hx'
          simp only [Value.slice.injEq, Option.some.injEq, Addr.mk.injEq, and_true, true_and] at hx'
          obtain ⟨⟨rfl, rfl⟩, rfl⟩ := hx'
          cases k2 with
          | zero =>
            have ej : j = l[i].l.length := by omega
            subst ej
            rw [List.take_length] at g3
            rw [hz] at q5
            simp [L12_1, t0, t4, t6, hx, hi, q5, e3]
            rw [← hx]
            refine fin _ _ y3 ?_ (by simp [t0]) (by simp [t3]) (by simp)
            rw [List.append_assoc] at g3
            exact g3
          | succ k2 =>
            have hj : j < l[i].l.length := by omega
            obtain ⟨bz, oz, cz, hz2, _, lz⟩ := hk'.x.at hj
            have e5 : IntKind.i64.wrap ((j : Int) + 1) = ((j + 1 : Nat) : Int) := by rw [w64 _ (by omega)]; omega
            obtain ⟨j1, hj1⟩ : ∃ j1, j1 = j + 1 := ⟨_, rfl⟩
            rw [← hj1] at e5
            obtain ⟨v4, H4, T4, g4⟩ := intR_T g3.wf (n := l[i].l[j]) (hk.l _ (List.getElem_mem hj))
            have hl1 := encIs_len (l[i].l.take j) (fun n hn' => hk.l n (List.mem_of_mem_take hn'))
            have hl2 := encU_len 9 (zz l[i].l[j]) (by have := zz_lt (hk.l _ (List.getElem_mem hj)); omega)
            have hl3 : (l[i].l.take j).length ≤ 256 := by simp; omega
            obtain ⟨a5, HB, ap5, g5⟩ := g3.cat g4 (by simp only [List.length_append]; omega)
            obtain ⟨m5, hm5⟩ : ∃ m, m = (w ++ encU l[i].l.length ++ encIs (l[i].l.take j)).length + (encU (zz l[i].l[j])).length := ⟨_, rfl⟩
            rw [← hm5] at ap5 g5
            rw [hz2] at q5
            simp [L12_1, t0, t3, t4, t6, hx, hi, q5, hj, lz]
            refine goT_of T4 ?_
            simp [ap5, t6, e5]
            rw [← hx]
            refine ⟨k2, Nat.lt_succ_self k2, j1, .slice a5 m5 0, by omega, by simp [t0], by simp, by simp [t4], by simp, ?_⟩
            have e6 : w ++ encU l[i].l.length ++ encIs (l[i].l.take j1) = w ++ encU l[i].l.length ++ encIs (l[i].l.take j) ++ encU (zz l[i].l[j]) := by
              rw [hj1, List.take_succ_eq_append_getElem hj, encIs_append]; simp [encIs]
            rw [e6]
            exact g5
theorem encU_b (n : Nat) : ∀ b ∈ encU n, b < 256 := by
  induction n using Nat.strongRecOn with
  | ind n ih =>
    intro b hb
    by_cases h : n < 128
    · rw [encU_small h] at hb; simp at hb; omega
    · rw [encU_big h] at hb
      rcases List.mem_cons.1 hb with rfl | hb
      · omega
      · exact ih (n / 128) (by omega) b hb
theorem sb_b (s : ByteArray) : ∀ b ∈ sb s, b < 256 := by
  intro b hb
  simp only [sb, List.mem_map] at hb
  obtain ⟨c, _, rfl⟩ := hb
  exact c.toNat_lt
theorem encIs_b (l : List Int) : ∀ b ∈ encIs l, b < 256 := by
  intro b hb
  simp only [encIs, List.mem_flatMap] at hb
  obtain ⟨n, _, hb⟩ := hb
  exact encU_b _ b hb
theorem encIt_b (a : It) : ∀ b ∈ encIt a, b < 256 := by
  unfold encIt
  split; exact encU_b _
  split; exact encU_b _
  split
  · intro b hb; simp at hb; subst hb; split <;> decide
  split
  · intro b hb
    rcases List.mem_append.1 hb with h | h
    · exact encU_b _ b h
    · exact sb_b _ b h
  · intro b hb
    rcases List.mem_append.1 hb with h | h
    · exact encU_b _ b h
    · exact encIs_b _ b h
theorem encIts_b (l : List It) : ∀ b ∈ encIts l, b < 256 := by
  intro b hb
  simp only [encIts, List.mem_flatMap] at hb
  obtain ⟨a, _, hb⟩ := hb
  exact encIt_b a b hb
theorem lays_T {H : Heap} (hw : H.WF) {x : Value} {l : List It} (h : Items H x l) : ∃ v H', T Try.prog 3 [x] H v H' ∧ v = .bool true := by
  refine T_by hm light3 ?_
  have T1 := small_T h
  cases hs : smallB l with
  | false =>
    rw [hs] at T1
    simp [L3]
    refine goT_of T1 ?_
    simp
  | true =>
    rw [hs] at T1
    obtain ⟨v2, H2, T2, g2⟩ := laid_T hw h hs
    have h2 := h.keep g2.base
    obtain ⟨v3, H3, T3, g3⟩ := want_T g2.wf h2 hs
    have b2 := own_bs g2.own
    have z2 := toStr_bs b2
    have z2' := toStr_bs (b2.keep g2.wf g3.base (OG.olds g3))
    have z3 := toStr_bs (own_bs g3.own)
    have lt := encIts_b l
    have q := eql_str lt lt
    simp only [decide_true] at q
    obtain ⟨v4, H4, T4, rfl, _⟩ := alive_T g3.wf
    simp [L3]
    refine goT_of T1 ?_
    simp
    refine goT_of T2 ?_
    simp [z2]
    refine goT_of T3 ?_
    simp [z2', z3, q]
    refine goT_of T4 ?_
    simp
end Go.Proofs.Ytpcgganldmmpoaa
