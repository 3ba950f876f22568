/-
  Chapter 26: the document's image: entries.
-/
import Derived.Test.YtnomffikflfilaaGreatSeatQD
namespace Go.Proofs.YtnomffikflfilaaGreat
open Go.Ot Go.RowKit
open E8 (encU zz encU_len zz_lt encU_b uintR_T intR_T OG Bs bc)
open R14 (Twos)
set_option linter.unusedSimpArgs false
set_option linter.unusedVariables false
def InvD6 (H : Heap) (y0 x : Value) (bs : List Nat) (l : List Ent) (k : Nat) (t : Tm) (H1 : Heap) : Prop :=
  ∃ (i m : Nat) (w : List Nat) (y : Value), i + k = l.length ∧ m ≤ i ∧ (∀ (j : Nat) (h : j < l.length) (h2 : i < l.length), i - m ≤ j → j < i → l[j] = l[i]) ∧ (i = l.length → m = 0) ∧
    t 2 = x ∧ t 9 = y ∧ t 19 = iv m ∧ t 20 = iv i ∧ OG H H1 y0 w y ∧ w ++ encR l.length (l.drop (i - m)) = bs ++ encR l.length l
theorem entsR {H0 H : Heap} (hw0 : H0.WF) {x : Value} {l : List Ent} (hx : Rl H0 x l) (hl : l.length ≤ 50000) (hb : ∀ e ∈ l, -9223372036854775808 ≤ e.1 ∧ e.1 ≤ 9223372036854775807) {bs : List Nat} {y : Value} (g0 : OG H0 H nilS bs y) (hbl : bs.length ≤ 100000000)
    {Q : Post} {t : Tm} (t2 : t 2 = x) (t9 : t 9 = y) (t19 : t 19 = iv 0) (t20 : t 20 = iv 0)
    (hE : ∀ (t' : Tm) (H1 : Heap) (y' : Value), t' 9 = y' → OG H H1 y (bs ++ encR l.length l) y' → Q (.exit 10) t' (rdy H1)) : wpA Tryz.prog (.loop L12_6) Q t (rdy H) := by
  have hw := g0.wf
  have hrl := encR_len l.length l hl hb
  refine loop_at (InvD6 H y x bs l) l.length ?_ ?_
  · exact ⟨0, 0, bs, y, by omega, by omega, fun j h h2 h3 h4 => by omega, fun _ => rfl, t2, t9, t19, t20, Og.refl hw g0.own, rfl⟩
  rintro k t1 H1 ⟨i, m, w, y1, hik, hmi, hall, hm0, u2, u9, u19, u20, a1, hw1⟩
  have on1 := OG.onF g0 a1
  have hx1 := hx.on hw0 on1
  obtain ⟨xa, xcc, hxl⟩ := hx.len
  have lx : sLenL x = some (iv l.length) := by rw [hxl]; rfl
  have hwl : w.length ≤ 110000000 := by
    have := congrArg List.length hw1
    simp only [List.length_append] at this
    omega
  cases k with
  | zero =>
    have ei : i = l.length := by omega
    have em := hm0 ei
    have e2 : l.drop (i - m) = [] := by rw [List.drop_eq_nil_iff]; omega
    have e3 : encR l.length [] = [] := by cases l.length <;> rfl
    rw [e2, e3, List.append_nil] at hw1
    simp [L12_6, u2, lx, u20, ei]
    exact hE _ _ y1 (by simp [u9]) (by rw [← hw1]; exact a1)
  | succ k =>
    have hi : i < l.length := by omega
    have hiI : (i : Int) < (l.length : Int) := by omega
    have e4 : IntKind.i64.wrap ((i : Int) + 1) = ((i + 1 : Nat) : Int) := by rw [w64 _ (by omega)]; omega
    obtain ⟨iN, hiN⟩ : ∃ z : Nat, z = i + 1 := ⟨_, rfl⟩
    rw [← hiN] at e4
    have e5 : IntKind.i64.wrap ((m : Int) + 1) = ((m + 1 : Nat) : Int) := by rw [w64 _ (by omega)]; omega
    obtain ⟨mN, hmN⟩ : ∃ z : Nat, z = m + 1 := ⟨_, rfl⟩
    rw [← hmN] at e5
    obtain ⟨e, he⟩ : ∃ e, e = l[i] := ⟨_, rfl⟩
    obtain ⟨b, off, c, hxb, ldA, ld0, ld1⟩ := hx1.get hi
    rw [← he] at ldA ld0 ld1
    have u2' := u2.trans hxb
    have he1 := hb e (by rw [he]; exact List.getElem_mem hi)
    obtain ⟨v2, H2, T2, g2⟩ := ub_T a1.wf a1.own (n := mN) (by omega) (by omega)
    have hul := encU_len 9 mN (by omega)
    have a2 := a1.trans g2
    have on2 := OG.onF g0 a2
    obtain ⟨b2, off2, c2, hxb2, _, ld02, ld12⟩ := (hx.on hw0 on2).get hi
    have hwl2 : (w ++ encU mN).length ≤ 110000010 := by rw [List.length_append]; omega
    obtain ⟨v3, H3, T3, g3⟩ := sb_T a2.wf a2.own (n := e.1) he1 (by omega)
    have hz := zz_lt he1
    have hul3 := encU_len 9 (zz e.1) (by omega)
    have hwl3 : (w ++ encU mN ++ encU (zz e.1)).length ≤ 110000020 := by rw [List.length_append]; omega
    have a3 := a2.trans g3
    have on3 := OG.onF g0 a3
    obtain ⟨b3, off3, c3, hxb3, _, ld03, ld13⟩ := (hx.on hw0 on3).get hi
    obtain ⟨v4, H4, T4, g4⟩ := fb_T a3.wf a3.own e.2 (by omega)
    have a4 := a3.trans g4
    rw [← he] at ld02 ld12 ld03 ld13
    have e12 := hxb.symm.trans hxb2
    simp only [Value.slice.injEq, Option.some.injEq, Addr.mk.injEq] at e12
    obtain ⟨⟨rfl, rfl, _⟩, _, rfl⟩ := e12
    have e13 := hxb.symm.trans hxb3
    simp only [Value.slice.injEq, Option.some.injEq, Addr.mk.injEq] at e13
    obtain ⟨⟨rfl, rfl, _⟩, _, rfl⟩ := e13
    have fin : (∀ h : i + 1 < l.length, l[i + 1] ≠ e) → (w ++ encU mN ++ encU (zz e.1) ++ [if e.2 then 1 else 0]) ++ encR l.length (l.drop (iN - 0)) = bs ++ encR l.length l := by
      intro hend
      have hR : runLen e (l.drop (i - m)) = mN := runLen_eq e (l.drop (i - m)) mN (by simp; omega) (fun j h hj => by
        simp only [List.getElem_drop]
        rcases Nat.lt_or_ge (i - m + j) i with h3 | h3
        · rw [he]; exact hall _ _ hi (by omega) h3
        · rw [he]; congr 1; omega) (fun h => by
        simp only [List.getElem_drop]
        have e3 : i - m + mN = i + 1 := by omega
        simp only [e3]
        exact hend (by simp at h; omega))
      have hdr : l.drop (i - m) = e :: l.drop (i - m + 1) := by
        have h9 : i - m < l.length := by omega
        rw [List.drop_eq_getElem_cons h9]
        congr 1
        rcases Nat.lt_or_ge (i - m) i with h3 | h3
        · rw [he]; exact hall _ _ hi (Nat.le_refl _) h3
        · rw [he]; congr 1; omega
      rw [← hw1, hdr]
      obtain ⟨n, hn⟩ : ∃ n, l.length = n + 1 := ⟨l.length - 1, by omega⟩
      rw [hn, encR, ← hdr, hR]
      have hdd : (l.drop (i - m)).drop mN = l.drop (iN - 0) := by rw [List.drop_drop]; congr 1; omega
      rw [hdd, ← encR_more n (n + 1) (l.drop (iN - 0)) (by simp; omega) (by omega)]
      simp only [List.append_assoc]
    by_cases hil : iN < l.length
    · have hilI : (iN : Int) < (l.length : Int) := by omega
      obtain ⟨b4, off4, c4, hxb4, ldB, _, _⟩ := hx1.get hil
      have e14 := hxb.symm.trans hxb4
      simp only [Value.slice.injEq, Option.some.injEq, Addr.mk.injEq] at e14
      obtain ⟨⟨rfl, rfl, _⟩, _, rfl⟩ := e14
      obtain ⟨f, hf⟩ : ∃ f, f = l[iN] := ⟨_, rfl⟩
      rw [← hf] at ldB
      simp [L12_6, u2', u20, hiI, hi, u19, e5, e4, hil, hilI, ldA, ldB]
      rw [wpP_eqR0]
      refine goE_of (by rfl) (by rfl) (eqN f e) ?_
      by_cases hfe : f = e
      · simp [hfe, u20, e4]
        refine ⟨k, by omega, iN, mN, w, y1, by omega, by omega, fun j h h2 h3 h4 => ?_, fun h => by omega, by simp [u2, ← hxb], by simp [u9], by simp, by simp, a1, ?_⟩
        · rw [← hf, hfe]
          rcases Nat.lt_or_ge j i with h5 | h5
          · rw [he]; exact hall j h hi (by omega) h5
          · rw [he]; congr 1; omega
        · rw [show iN - mN = i - m by omega]; exact hw1
      · simp [hfe, u9, u19]
        refine goT_of T2 ?_
        simp [u2', u20, hiI, hi, ld0, ld02]
        refine goT_of T3 ?_
        simp [u2', u20, hiI, hi, ld1, ld12, ld13]
        refine goT_of T4 ?_
        simp [u20, e4]
        exact ⟨k, by omega, iN, 0, _, v4, by omega, by omega, fun j h h2 h3 h4 => by omega, fun _ => rfl, by simp [u2, ← hxb], by simp, by simp, by simp, a4, fin (fun h => by rw [hf] at hfe; simpa only [hiN] using hfe)⟩
    · have hilI : ¬ (iN : Int) < (l.length : Int) := by omega
      simp [L12_6, u2', u20, hiI, hi, u19, e5, e4, hil, hilI, u9]
      refine goT_of T2 ?_
      simp [u2', u20, hiI, hi, ld0, ld02]
      refine goT_of T3 ?_
      simp [u2', u20, hiI, hi, ld1, ld12, ld13]
      refine goT_of T4 ?_
      simp [u20, e4]
      exact ⟨k, by omega, iN, 0, _, v4, by omega, by omega, fun j h h2 h3 h4 => by omega, fun _ => rfl, by simp [u2, ← hxb], by simp, by simp, by simp, a4, fin (fun h => by omega)⟩
end Go.Proofs.YtnomffikflfilaaGreat
