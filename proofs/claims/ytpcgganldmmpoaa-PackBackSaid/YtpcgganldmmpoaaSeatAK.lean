/-
  What was laid down is taken up: the plain law.
-/
import Derived.Test.YtpcgganldmmpoaaSeatAH
namespace Go.Proofs.Ytpcgganldmmpoaa
open Go.Ot
set_option linter.unusedSimpArgs false
set_option linter.unusedVariables false
theorem tu_of : ∀ (k i a n : Nat) (r : List Nat), i + (k + 1) = 10 → n * 2 ^ (7 * i) < 18446744073709551616 → (0 < i → n ≠ 0) → tu (k + 1) i a (encU n ++ r) = (a + n * 2 ^ (7 * i), r, 0)
  | k, i, a, n, r, hik, hn, h0 => by
    obtain ⟨U, hU, U0, U8, U9⟩ := units i (by omega)
    rw [← hU] at hn ⊢
    have h9 : i = 9 → n ≤ 1 := by
      intro h
      have := U9 h
      rw [this] at hn
      omega
    by_cases hs : n < 128
    · rw [encU_small hs]
      simp only [List.singleton_append, tu]
      rw [if_neg (by intro h; rcases h with ⟨h1, h2⟩ | ⟨h1, h2⟩
                     · exact h0 h1 h2
                     · have := h9 h1; omega), if_pos hs, ← hU, Nat.mod_eq_of_lt hs]
    · rw [encU_big hs]
      simp only [List.cons_append, tu]
      rw [if_neg (by omega), if_neg (by omega)]
      cases k with
      | zero => have := h9 (by omega); omega
      | succ k =>
        have h8 : i ≤ 8 := by omega
        have e := (U8 h8).2
        have hdm : n % 128 + 128 * (n / 128) = n := Nat.mod_add_div n 128
        have hm : (n % 128 + 128) % 128 = n % 128 := by omega
        have hmul : n / 128 * (U * 128) = (128 * (n / 128)) * U := by rw [Nat.mul_comm U 128, ← Nat.mul_assoc, Nat.mul_comm (n / 128) 128]
        have hle : 128 * (n / 128) * U ≤ n * U := Nat.mul_le_mul_right _ (by omega)
        rw [tu_of k (i + 1) _ (n / 128) r (by omega) (by rw [e, hmul]; omega) (fun _ => by omega), e, ← hU, hm, hmul]
        congr 1
        rw [Nat.add_assoc, ← Nat.add_mul, hdm]
theorem uS_of {n : Nat} (hn : n < 18446744073709551616) (r : List Nat) : uS (encU n ++ r) 0 = (n, r, 0) := by
  have e : uS (encU n ++ r) 0 = tu 10 0 0 (encU n ++ r) := by simp [uS]
  rw [e, tu_of 9 0 0 n r rfl (by simpa using hn) (fun h => absurd h (by omega))]
  simp
theorem unzz_zz (n : Int) : unzz (zz n) = n := by
  unfold unzz zz
  split <;> split <;> omega
theorem iS_of {n : Int} (hn : -9223372036854775808 ≤ n ∧ n ≤ 9223372036854775807) (r : List Nat) : iS (encU (zz n) ++ r) 0 = (n, r, 0) := by
  unfold iS
  rw [uS_of (zz_lt hn)]
  simp only [unzz_zz]
theorem flagS_of (b : Bool) (r : List Nat) : flagS ((if b then 1 else 0) :: r) 0 = (b, r, 0) := by
  cases b <;> simp [flagS, nxS]
theorem countS_of {n : Nat} {r : List Nat} (hn : n < 18446744073709551616) (h : n ≤ r.length) : countS (encU n ++ r) 0 1 = (n, r, 0) := by
  unfold countS
  rw [uS_of hn]
  have e : leftN r 0 / atLeast 1 = r.length := by simp [leftN, atLeast]
  simp only
  rw [e, if_neg (by omega)]
theorem textS_of {bs r : List Nat} (hn : bs.length < 18446744073709551616) : textS (encU bs.length ++ (bs ++ r)) 0 = (bs, r, 0) := by
  unfold textS
  rw [countS_of hn (by simp)]
  simp
theorem intsN_of : ∀ (l : List Int) (r : List Nat), (∀ n ∈ l, -9223372036854775808 ≤ n ∧ n ≤ 9223372036854775807) → intsN l.length (encIs l ++ r) 0 = (l, r, 0)
  | [], r, _ => rfl
  | n :: l, r, h => by
    have e : encIs (n :: l) ++ r = encU (zz n) ++ (encIs l ++ r) := by simp [encIs]
    rw [e]
    simp only [List.length_cons, intsN]
    rw [iS_of (h n (by simp))]
    simp only
    rw [intsN_of l r (fun m hm => h m (by simp [hm]))]
theorem encIs_ge (l : List Int) : l.length ≤ (encIs l).length := by
  induction l with
  | nil => simp [encIs]
  | cons n l ih =>
    have e : encIs (n :: l) = encU (zz n) ++ encIs l := by simp [encIs]
    have := encU_pos (zz n)
    rw [e, List.length_append, List.length_cons]; omega
theorem intsS_of {l : List Int} {r : List Nat} (hl : l.length < 18446744073709551616) (h : ∀ n ∈ l, -9223372036854775808 ≤ n ∧ n ≤ 9223372036854775807) : intsS (encU l.length ++ (encIs l ++ r)) 0 = (l, r, 0) := by
  have h1 := encIs_ge l
  unfold intsS
  rw [countS_of hl (by rw [List.length_append]; omega)]
  simp only
  rw [intsN_of l r h]
  simp
theorem strB_sb (s : ByteArray) : (strB (sb s)).toList = s.toList := by
  rw [strB_toList, sb, List.map_map, ByteArray.toList_eq]
  conv => rhs; rw [← List.map_id s.data.toList]
  refine List.map_congr_left fun b _ => ?_
  simp
theorem eql_sb (s : ByteArray) : sBin .eql (.string (strB (sb s))) (.string s) = some (.bool true) := by
  simp only [sBin, sBinS]
  rw [strB_sb]
  simp
def InvBk (H : Heap) (p : Nat) (x xr : Value) (b : List Nat) (l : List It) (k : Nat) (t : Tm) (H1 : Heap) : Prop :=
  ∃ (i : Nat), i + k = l.length ∧ t 0 = x ∧ t 3 = ptr p ∧ t 4 = iz i ∧ RS H1 p xr b (encIts (l.drop i)) 0 ∧ (∀ b, blkOf xr = some b → b < H1.next) ∧ H1.WF ∧ H1.base = H.base
theorem back_T {H : Heap} (hw : H.WF) {x : Value} {l : List It} (h : Items H x l) : ∃ v H', T Try.prog 9 [x] H v H' ∧ v = .bool true := by
  refine T_by hm light9 ?_
  obtain ⟨xa, xc, hxl⟩ := h.len
  have Ts := small_T h
  cases hs : smallB l with
  | false =>
    rw [hs] at Ts
    simp [L9]
    refine goT_of Ts ?_
    simp
  | true =>
    rw [hs] at Ts
    obtain ⟨h64, hsm⟩ := small_of hs
    obtain ⟨y, H1, T1, g1⟩ := laid_T hw h hs
    have hok := h.ok
    have hel := encIts_len hok hsm
    have hel2 : (encIts l).length ≤ 192000 := by omega
    have heb : ∀ c ∈ encIts l, c < 256 := by
      intro c hc
      unfold encIts at hc
      obtain ⟨a, _, ha⟩ := List.mem_flatMap.1 hc
      exact encIt_b _ _ ha
    obtain ⟨v2, H2, T2, p, xr, rfl, hrd, hpn, w2, b2, s2, hxlt, hxge⟩ := read_T2 g1.wf (own_bs g1.own) heb (by omega)
    have rs2 : RS H2 p xr (encIts l) (encIts l) 0 := ⟨by simpa using hrd, List.suffix_refl _⟩
    simp [L9]
    refine goT_of Ts ?_
    simp
    refine goT_of T1 ?_
    simp
    refine goT_of T2 ?_
    simp [fitsNil, isNil]
    refine loop_at (InvBk H p x xr (encIts l) l) l.length ?_ ?_
    · exact ⟨0, by omega, by simp, by simp, by simp, by simpa using rs2, hxlt, w2, b2.trans g1.base⟩
    · rintro k t G ⟨i, hik, t0, t3, t4, rs, hxl', wG, bG⟩
      cases k with
      | zero =>
        have ei : i = l.length := by omega
        subst ei
        rw [List.drop_length] at rs
        have T3 := rend_T rs
        have T4 := left_S rs
        have e1 : endN (encIts []) 0 = 0 := rfl
        have e2 : (if 0 = 0 then (encIts ([] : List It)).length else 0 : Nat) = 0 := rfl
        rw [e1] at T3
        rw [e2] at T4
        obtain ⟨v7, HG, T7, rfl, _⟩ := alive_T wG
        rw [hxl] at t0
        simp [L9_1, t0, t3, t4]
        refine goT_of T3 ?_
        simp [t3]
        refine goT_of T4 ?_
        simp
        refine goT_of T7 ?_
        simp
      | succ k =>
        have hi : i < l.length := by omega
        obtain ⟨b, off, c, hx, hk, l0, l1, l2, l3, l4, l5⟩ := (h.keep bG).at hi
        have e3 : IntKind.i64.wrap ((i : Int) + 1) = ((i + 1 : Nat) : Int) := by rw [w64 _ (by omega)]; omega
        obtain ⟨i1, hi1⟩ : ∃ i1, i1 = i + 1 := ⟨_, rfl⟩
        rw [← hi1] at e3
        have hki := hsm _ (List.getElem_mem hi)
        have ed : encIts (l.drop i) = encIt l[i] ++ encIts (l.drop i1) := by
          have := List.drop_eq_getElem_cons hi
          unfold encIts
          rw [this, hi1, List.flatMap_cons]
        have hkl : kindN l[i].kind < 5 := by unfold kindN; omega
        have fin : ∀ (t' : Tm) (G' : Heap), RS G' p xr (encIts l) (encIts (l.drop i1)) 0 → G'.WF → G'.base = G.base → G.next ≤ G'.next → t' 0 = x → t' 3 = ptr p → t' 4 = iz i1 → ∃ m, m < k + 1 ∧ InvBk H p x xr (encIts l) l m t' G' :=
          fun t' G' g1 g2 g3 g4 h0 h3 h4 => ⟨k, Nat.lt_succ_self k, i1, by omega, h0, h3, h4, g1, fun b hb => Nat.lt_of_lt_of_le (hxl' b hb) g4, g2, g3.trans bG⟩
        have hsuf : encIts (l.drop i1) <:+ encIts (l.drop i) := by rw [ed]; exact List.suffix_append _ _
        obtain ⟨r, hr⟩ : ∃ r, r = encIts (l.drop i1) := ⟨_, rfl⟩
        rw [← hr] at ed hsuf fin
        obtain ⟨G', hG'⟩ : ∃ G', G' = G.put p (rsC xr (encIts l) r 0) := ⟨_, rfl⟩
        have rs' : RS G' p xr (encIts l) r 0 := by rw [hG']; exact rs.step 0 hsuf
        have w' : G'.WF := by rw [hG']; exact WF_put wG _ _
        have b' : G'.base = G.base := by rw [hG']; simp
        have n' : G.next ≤ G'.next := by rw [hG']; simp
        have F := fun t' h0 h3 h4 => fin t' G' rs' w' b' n' h0 h3 h4
        obtain ⟨bb, off2, c2, hx2, _, l0', l1', l2', l3', l4', l5'⟩ := (h.keep (b'.trans bG)).at hi
        have hxe := hx.symm.trans hx2
        simp at hxe
        obtain ⟨⟨rfl, rfl⟩, rfl⟩ := hxe
        simp [L9_1, t0, t4, hx, hi, l0]
        refine goT_of (kind_T _ hk.kind) ?_
        by_cases k0' : kindN l[i].kind = 0
        · rw [show encIt l[i] = encU l[i].u by simp [encIt, k0']] at ed
          have T5 := ruint_T rs
          rw [ed, uS_of hk.u] at T5
          rw [← hG'] at T5
          simp [k0', t0, t3, t4, hx, hi, l1]
          refine goT_of T5 ?_
          simp [t0, t4, hx, hi, e3, l1, l1']
          rw [← hx]
          exact F _ (by simp [t0, hx]) (by simp [t3]) (by simp)
        by_cases k1' : kindN l[i].kind = 1
        · rw [show encIt l[i] = encU (zz l[i].n) by simp [encIt, k1']] at ed
          have T5 := rint_T rs
          rw [ed, iS_of hk.n] at T5
          rw [← hG'] at T5
          simp [k1', t0, t3, t4, hx, hi, l2]
          refine goT_of T5 ?_
          simp [t0, t4, hx, hi, e3, l2, l2']
          rw [← hx]
          exact F _ (by simp [t0, hx]) (by simp [t3]) (by simp)
        by_cases k2' : kindN l[i].kind = 2
        · rw [show encIt l[i] = [if l[i].is then 1 else 0] by simp [encIt, k2']] at ed
          have T5 := rflag_T rs
          rw [ed, show [if l[i].is = true then 1 else 0] ++ r = (if l[i].is then 1 else 0) :: r from rfl, flagS_of] at T5
          rw [← hG'] at T5
          simp [k2', t0, t3, t4, hx, hi, l3]
          refine goT_of T5 ?_
          simp [t0, t4, hx, hi, e3, l3, l3']
          rw [← hx]
          exact F _ (by simp [t0, hx]) (by simp [t3]) (by simp)
        by_cases k3' : kindN l[i].kind = 3
        · rw [show encIt l[i] = encU (sb l[i].s).length ++ sb l[i].s by simp [encIt, k3', sb_len]] at ed
          have T5 := rtext_T rs
          rw [ed, List.append_assoc, textS_of (by rw [sb_len]; omega)] at T5
          rw [← hG'] at T5
          have eq := eql_sb l[i].s
          simp [k3', t0, t3, t4, hx, hi, l4]
          refine goT_of T5 ?_
          simp [t0, t4, hx, hi, e3, l4, l4', eq]
          rw [← hx]
          exact F _ (by simp [t0, hx]) (by simp [t3]) (by simp)
        · rw [show encIt l[i] = encU l[i].l.length ++ encIs l[i].l by simp [encIt, k0', k1', k2', k3'], List.append_assoc] at ed
          obtain ⟨v5, G5, T5, rs5, i5, s5⟩ := rints_T wG rs hxl' (by have := rs.suf.length_le; omega)
          rw [ed, intsS_of (by omega) hk.l] at rs5 i5
          have w5 := T5.grow.wf wG
          have n5 := T5.grow.next
          obtain ⟨_, _, _, hx3, hk5, _, _, _, _, _, l5''⟩ := (h.keep (T5.1.trans bG)).at hi
          have hxe := hx.symm.trans hx3
          simp at hxe
          obtain ⟨⟨rfl, rfl⟩, rfl⟩ := hxe
          have T6 := same_T (r := l[i].l) i5 hk5.x.ints (by omega)
          simp [k0', k1', k2', k3', t0, t3, t4, hx, hi, l5]
          refine goT_of T5 ?_
          simp [t0, t4, hx, hi, l5, l5'']
          refine goT_of T6 ?_
          simp [t4, e3]
          rw [← hx]
          exact fin _ G5 rs5 w5 T5.1 n5 (by simp [t0, hx]) (by simp [t3]) (by simp)
theorem back_U {H : Heap} (hw : H.WF) {x : Value} (h0 : Rd Try.prog H 5 22 [x]) : ∃ v H', T Try.prog 9 [x] H v H' ∧ v = .bool true := by
  obtain ⟨l, h⟩ := items_of h0
  exact back_T hw h
end Go.Proofs.Ytpcgganldmmpoaa
