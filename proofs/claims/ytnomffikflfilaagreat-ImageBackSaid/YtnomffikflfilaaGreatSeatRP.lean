/-
  Chapter 26: a play taken up. Chapter 26: Unpack. Chapter 26: Unpack answers what was taken up. Chapter 26: ImageOne.
-/
import Derived.Test.YtnomffikflfilaaGreatSeatRK
import Derived.Test.YtnomffikflfilaaGreatSeatQA
import Derived.Test.YtnomffikflfilaaGreatOtX
namespace Go.Proofs.YtnomffikflfilaaGreat.E8
open I8
open Go.Ot Go.RowKit
open R14 (ci Twos)
set_option linter.unusedSimpArgs false
set_option linter.unusedVariables false
set_option maxRecDepth 100000
theorem L16_eq : L16 = K16_0 := rfl
theorem Vr.storeP {G : Heap} {q ty n : Nat} {cs : List Value} (h : Vr G q ty n cs) {o m : Nat} (hm : 0 < m) (row : List Value) (hr : row.length = m) (hle : o + m ≤ cs.length) :
    sStore G m (.pointer (some ⟨q, o, none⟩)) (.agg row.toArray) = some (G.put q (cs.take o ++ row ++ cs.drop (o + m))) := by
  rw [sStore_agg _ _ _ _ hr hm, storeN_at h.hq h.bq (by simp; omega) h.hn]
  simp [hr]
abbrev zer23 : List Value := [iv 0, .slice none 0 0, .slice none 0 0, iv 0, iv 0, iv 0, iv 0, iv 0, iv 0, iv 0, .slice none 0 0, iv 0, iv 0, iv 0, iv 0, iv 0, iv 0, iv 0, iv 0, iv 0, iv 0, .bool false, .slice none 0 0]
abbrev ptsO (v : Nat) : List Value := [.pointer (some ⟨v, 11, none⟩), .pointer (some ⟨v, 12, none⟩), .pointer (some ⟨v, 13, none⟩), .pointer (some ⟨v, 14, none⟩), .pointer (some ⟨v, 15, none⟩), .pointer (some ⟨v, 16, none⟩), .pointer (some ⟨v, 17, none⟩), .pointer (some ⟨v, 18, none⟩), .pointer (some ⟨v, 19, none⟩), .pointer (some ⟨v, 20, none⟩)]
theorem ptsO_get (v : Nat) {i : Nat} (hi : i < 10) : (ptsO v)[i]? = some (.pointer (some ⟨v, 11 + i, none⟩)) := by
  match i, hi with
  | 0, _ => rfl
  | 1, _ => rfl
  | 2, _ => rfl
  | 3, _ => rfl
  | 4, _ => rfl
  | 5, _ => rfl
  | 6, _ => rfl
  | 7, _ => rfl
  | 8, _ => rfl
  | 9, _ => rfl
theorem numbersO_E {H : Heap} (hw : H.WF) (v : Nat) : TE Tryz.prog 53 [.pointer (some ⟨v, 11, none⟩)] H (fun o H' => o = .ret (.agg (ptsO v).toArray) ∧ On H H') := by
  refine TE_by hm light53 ?_
  obtain ⟨HA, hHA⟩ : ∃ HA, HA = H.new 122 10 [.pointer none, .pointer none, .pointer none, .pointer none, .pointer none, .pointer none, .pointer none, .pointer none, .pointer none, .pointer none] := ⟨_, rfl⟩
  have onA : On H HA := by rw [hHA]; exact (On.refl hw).new _ _ _
  have vA : Vr HA H.next 122 10 [.pointer none, .pointer none, .pointer none, .pointer none, .pointer none, .pointer none, .pointer none, .pointer none, .pointer none, .pointer none] := by rw [hHA]; exact Vr.mk' hw _ _ _
  have sA := vA.storeA (m := 10) (by decide) (ptsO v) rfl rfl
  obtain ⟨HB, hHB⟩ : ∃ HB, HB = HA.put H.next (ptsO v) := ⟨_, rfl⟩
  have lB : HB.loadN ⟨H.next, 0, none⟩ 0 10 = some (ptsO v) := by rw [hHB]; exact (vA.put _).loadA rfl
  have onB : On H HB := by rw [hHB]; exact onA.put (Nat.le_refl _) _
  rw [← hHB] at sA
  simp [L53, ← hHA, sA, lB]
  exact onB
def cellsAt (base : List Value) (acc : List Int) : List Value := base.take 11 ++ acc.map iv ++ base.drop (11 + acc.length)
theorem cellsAt_nil (base : List Value) : cellsAt base [] = base := by simp [cellsAt]
theorem cellsAt_len {base : List Value} (h : base.length = 23) {acc : List Int} (ha : acc.length ≤ 12) : (cellsAt base acc).length = 23 := by
  simp [cellsAt, h]; omega
theorem cellsAt_set {base : List Value} (h : base.length = 23) {acc : List Int} (ha : acc.length < 12) (v : Int) : (cellsAt base acc).set (11 + acc.length) (iv v) = cellsAt base (acc ++ [v]) := by
  have h1 : (base.take 11 ++ acc.map iv).length = 11 + acc.length := by simp [h]
  have h2 : base.drop (11 + acc.length) = base[11 + acc.length]'(by omega) :: base.drop (11 + acc.length + 1) := List.drop_eq_getElem_cons (by omega)
  unfold cellsAt
  rw [h2, List.set_append_right _ _ (by omega), h1, Nat.sub_self, List.set_cons_zero]
  simp [Nat.add_assoc]
def InvCT (H H1 : Heap) (p q : Nat) (x : Value) (b : List Nat) (base : List Value) (want : List Int × List Nat × Nat) (tt : Tm) (k : Nat) (t : Tm) (G : Heap) : Prop :=
  ∃ (i : Nat) (l : List Nat) (f : Nat) (acc : List Int), i + k = 10 ∧ acc.length = i ∧ t 0 = tt 0 ∧ t 2 = tt 2 ∧ t 6 = ptr p ∧ t 8 = ptr q ∧ t 47 = .agg (ptsO q).toArray ∧ t 48 = iv i ∧ Rn H G p x b l f ∧ Vr G q 42 23 (cellsAt base acc) ∧ tenS k l f acc = want ∧ Same H1 G [p, q] ∧ H1.next = G.next
theorem cfg_w {H H1 : Heap} {p q : Nat} {x : Value} {b l : List Nat} {f : Nat} {base : List Value} (R : Rn H H1 p x b l f) (hq : H.next ≤ q) (V : Vr H1 q 42 23 base) (hb : base.length = 23)
    {Q : Post} {t : Tm} (t6 : t 6 = ptr p) (t8 : t 8 = ptr q) (t47 : t 47 = .agg (ptsO q).toArray) (t48 : t 48 = iv 0)
    (hE : ∀ (t' : Tm) (G : Heap), t' 0 = t 0 → t' 2 = t 2 → t' 6 = ptr p → t' 8 = ptr q → Rn H G p x b (tenS 10 l f []).2.1 (tenS 10 l f []).2.2 → Vr G q 42 23 (cellsAt base (tenS 10 l f []).1) → Same H1 G [p, q] → H1.next = G.next → Q (.exit 0) t' (rdy G)) : wpA Tryz.prog (.loop L16_1) Q t (rdy H1) := by
  obtain ⟨want, hwant⟩ : ∃ w, w = tenS 10 l f [] := ⟨_, rfl⟩
  rw [← hwant] at hE
  have hpH := R.hp
  refine loop_at (InvCT H H1 p q x b base want t) 10 ?_ ?_
  · exact ⟨0, l, f, [], rfl, rfl, rfl, rfl, t6, t8, t47, t48, R, by rw [cellsAt_nil]; exact V, hwant.symm, Same.refl _ _, rfl⟩
  rintro k t1 G ⟨i, l2, f2, acc, hik, hacc, u0, u2, u6, u8, u47, u48, R2, V2, hw, sm, hn⟩
  cases k with
  | zero =>
    have ei : i = 10 := by omega
    have hw2 : want = (acc, l2, f2) := hw.symm
    rw [hw2] at hE
    simp [L16_1, u48, ei]
    exact hE _ _ (by simp [u0]) (by simp [u2]) (by simp [u6]) (by simp [u8]) R2 V2 sm hn
  | succ k =>
    have hi : i < 10 := by omega
    have hiI : (i : Int) < 10 := by omega
    have hi0 : (0 : Int) ≤ (i : Int) := by omega
    have e4 : IntKind.i64.wrap ((i : Int) + 1) = ((i + 1 : Nat) : Int) := by rw [w64 _ (by omega)]; omega
    obtain ⟨iN, hiN⟩ : ∃ z : Nat, z = i + 1 := ⟨_, rfl⟩
    rw [← hiN] at e4
    have ix : sIdxAgg false 10 1 (.agg (ptsO q).toArray) (iv i) = some (.pointer (some ⟨q, 11 + i, none⟩)) := by
      simp only [sIdxAgg]
      rw [if_pos ⟨hi0, hiI⟩]
      have := ptsO_get q hi
      simpa [sPart] using this
    have T1 := small_T R2.rs
    have R3 := R2.step (rdP M31 l2 f2).2.2 (rdP_suf M31 l2 f2)
    rw [show tenS (k + 1) l2 f2 acc = tenS k (rdP M31 l2 f2).2.1 (rdP M31 l2 f2).2.2 (acc ++ [((rdP M31 l2 f2).1 : Int)]) from rfl] at hw
    obtain ⟨n, hn'⟩ : ∃ a, a = (rdP M31 l2 f2).1 := ⟨_, rfl⟩
    obtain ⟨l3, hl3⟩ : ∃ a, a = (rdP M31 l2 f2).2.1 := ⟨_, rfl⟩
    obtain ⟨f3, hf3⟩ : ∃ a, a = (rdP M31 l2 f2).2.2 := ⟨_, rfl⟩
    rw [← hn', ← hl3, ← hf3] at T1 hw
    rw [← hl3, ← hf3] at R3
    obtain ⟨G3, hG3⟩ : ∃ D, D = G.put p (rsC x b l3 f3) := ⟨_, rfl⟩
    rw [← hG3] at T1 R3
    have V3 : Vr G3 q 42 23 (cellsAt base acc) := by rw [hG3]; exact V2.beside (by omega) _
    have st := V3.store (11 + i) (iv n) (by rw [cellsAt_len hb (by omega)]; omega)
    have hcs : (cellsAt base acc).set (11 + i) (iv n) = cellsAt base (acc ++ [(n : Int)]) := by rw [← hacc]; exact cellsAt_set hb (by omega) _
    rw [hcs] at st
    simp [L16_1, u48, hiI, u47, ix, u6]
    refine goT_of T1 ?_
    simp [st, u48, e4]
    refine ⟨k, by omega, iN, l3, f3, acc ++ [(n : Int)], by omega, by simp [hacc, hiN], by simp [u0], by simp [u2], by simp [u6], by simp [u8], by simp [u47], by simp, R3.put hq _, V3.put _, hw, ?_, ?_⟩
    · intro c hc hcn
      have h1 : c ≠ p ∧ c ≠ q := by simpa using hcn
      rw [hG3]; simp [h1.1, h1.2]
      exact sm c hc hcn
    · rw [hG3]; exact hn
theorem ten_of {a : List Int} (h : a.length = 10) : ∃ a0 a1 a2 a3 a4 a5 a6 a7 a8 a9, a = [a0, a1, a2, a3, a4, a5, a6, a7, a8, a9] := by
  match a, h with
  | [a0, a1, a2, a3, a4, a5, a6, a7, a8, a9], _ => exact ⟨a0, a1, a2, a3, a4, a5, a6, a7, a8, a9, rfl⟩
def preS (B : List Nat) : Int × Jp × Cfg × List Ent :=
  if (uS B 0).1 ≠ 1 ∧ (uS B 0).2.2 = 0 then (260, jp0 0, cfgOf [] false, [])
  else if (jobS (uS B 0).2.1 (uS B 0).2.2).1 ≠ 0 then ((jobS (uS B 0).2.1 (uS B 0).2.2).1, jp0 0, cfgOf [] false, [])
  else preT (jobS (uS B 0).2.1 (uS B 0).2.2).2.1 (jobS (uS B 0).2.1 (uS B 0).2.2).2.2.1 (jobS (uS B 0).2.1 (uS B 0).2.2).2.2.2
where preT (P : Jp) (l : List Nat) (f : Nat) : Int × Jp × Cfg × List Ent :=
  if (entS (cfgS l f).2.1 (cfgS l f).2.2).1 ≠ 0 then ((entS (cfgS l f).2.1 (cfgS l f).2.2).1, jp0 0, cfgOf [] false, [])
  else if endN (entS (cfgS l f).2.1 (cfgS l f).2.2).2.2.1 (entS (cfgS l f).2.1 (cfgS l f).2.2).2.2.2 ≠ 0 then ((endN (entS (cfgS l f).2.1 (cfgS l f).2.2).2.2.1 (entS (cfgS l f).2.1 (cfgS l f).2.2).2.2.2 : Int), jp0 0, cfgOf [] false, [])
  else (0, P, (cfgS l f).1, (entS (cfgS l f).2.1 (cfgS l f).2.2).2.1)
def jbOf (P : Jp) : Jb := P.jb (.slice none 0 0) (.slice none 0 0) (.slice none 0 0)
def finE (b : List Nat) (r : Int × Jp × Cfg × List Ent) : Int :=
  if r.1 ≠ 0 then r.1 else if playE (jbOf r.2.1) r.2.2.1 r.2.2.2.length ≠ 0 then playE (jbOf r.2.1) r.2.2.1 r.2.2.2.length
  else if (packV (jbOf r.2.1) r.2.2.1 r.2.2.2).1 ≠ 0 then 260
  else if (strB (packV (jbOf r.2.1) r.2.2.1 r.2.2.2).2).toList = (strB b).toList then 0 else 260
def unE (b : List Nat) : Int := if (openB b).1 ≠ 0 then (openB b).1 else finE b (preS (openB b).2)
def UnQ (H : Heap) (b : List Nat) (o : Out) (H' : Heap) : Prop :=
  On H H' ∧ ∃ cs, o = .ret (.tuple #[.agg cs.toArray, iv (unE b)]) ∧ (unE b ≠ 0 → cs = zer23) ∧
    (unE b = 0 → ∃ xc xr xk y, cs = runC ((preS (openB b).2).2.1.jb xc xr xk) (preS (openB b).2).2.2.1 y ∧ Jr H' (preS (openB b).2).2.1 xc xr xk ∧ Rl H' y (preS (openB b).2).2.2.2)
end Go.Proofs.YtnomffikflfilaaGreat.E8
namespace Go.Proofs.YtnomffikflfilaaGreat.E8
open I8
open Go.Ot Go.RowKit
open R14 (ci Twos)
set_option linter.unusedSimpArgs false
set_option linter.unusedVariables false
set_option maxRecDepth 100000
def FinU (H : Heap) (b : List Nat) (z : Nat) (Q : Post) : Prop :=
  (∀ (t' : Tm) (G' : Heap), t' 2 = ptr z → t' 3 = iv (unE b) → unE b ≠ 0 → On H G' → Vr G' z 42 23 zer23 → Q .ret t' (rdy G')) ∧
  (∀ (t' : Tm) (G' : Heap) (cs : List Value) (xc xr xk y : Value), t' 2 = ptr z → t' 3 = iv (unE b) → unE b = 0 → On H G' → Vr G' z 42 23 cs → cs.length = 23 → cs = runC ((preS (openB b).2).2.1.jb xc xr xk) (preS (openB b).2).2.2.1 y → Jr G' (preS (openB b).2).2.1 xc xr xk → Rl G' y (preS (openB b).2).2.2.2 → Q .ret t' (rdy G'))
theorem jbok {G : Heap} {P : Jp} {xc xr xk : Value} (J : Jr G P xc xr xk) (B : JpB P) : JbOk G (P.jb xc xr xk) := ⟨J.xc, J.xr, J.xk, B.S, B.n.nc, B.n.nr, B.n.nk, fun c hc a ha => ((B.k c hc).2 a ha).1⟩
theorem jbb {P : Jp} (B : JpB P) (xc xr xk : Value) : JbB (P.jb xc xr xk) := ⟨B.c, B.r, fun c hc a ha => ((B.k c hc).2 a ha).2⟩
theorem fin_w {H G : Heap} {z q : Nat} {x : Value} {b : List Nat} {P : Jp} {C : Cfg} {ents : List Ent} {xc xr xk : Value} {a : Option Addr} {c : Nat} (on : On H G) (Z : Vr G z 42 23 zer23) (hz : H.next ≤ z)
    (V : Vr G q 42 23 (runC (P.jb xc xr xk) C (.slice a ents.length c))) (J : Jr G P xc xr xk) (B : JpB P) (E : Rl G (.slice a ents.length c) ents) (eb : ∀ e ∈ ents, okI e.1) (el : ents.length ≤ 40000) (X : Bs G x b)
    (nz : ∀ G2 : Heap, On G G2 → Jr (G2.put z (runC (P.jb xc xr xk) C (.slice a ents.length c))) P xc xr xk ∧ Rl (G2.put z (runC (P.jb xc xr xk) C (.slice a ents.length c))) (.slice a ents.length c) ents)
    (hpre : preS (openB b).2 = (0, P, C, ents)) (ho : (openB b).1 = 0) {Q : Post} {t : Tm} (t0 : t 0 = x) (t2 : t 2 = ptr z) (t8 : t 8 = ptr q) (hQ : FinU H b z Q) : wpA Tryz.prog K16_13 Q t (rdy G) := by
  obtain ⟨hQ1, hQ2⟩ := hQ
  have w := on.wf
  have hu : unE b = finE b (0, P, C, ents) := by unfold unE; rw [if_neg (by simp [ho]), hpre]
  unfold finE at hu
  rw [if_neg (by simp)] at hu
  rw [hpre] at hQ2
  simp only at hu hQ2
  have ok := jbok J B
  have iT := iright_T w ok C a ents.length c
  have kE := pack_E w ok (jbb B xc xr xk) C E (by omega) eb
  have eP : playE (P.jb xc xr xk) C ents.length = playE (jbOf P) C ents.length := rfl
  have eV : packV (P.jb xc xr xk) C ents = packV (jbOf P) C ents := rfl
  unfold PackQ at kE
  rw [eV] at kE
  rw [eP] at iT
  obtain ⟨pe, hpe⟩ : ∃ p, p = playE (jbOf P) C ents.length := ⟨_, rfl⟩
  obtain ⟨pv, hpv⟩ : ∃ p, p = packV (jbOf P) C ents := ⟨_, rfl⟩
  rw [← hpe] at iT hu
  rw [← hpv] at kE hu
  obtain ⟨cs, hcs⟩ : ∃ cs, cs = runC (P.jb xc xr xk) C (.slice a ents.length c) := ⟨_, rfl⟩
  have hl : cs.length = 23 := by rw [hcs]; rfl
  rw [← hcs] at iT kE V nz
  have ld := V.loadA (m := 23) hl
  have st0 := Z.storeA (m := 23) (by decide) zer23 rfl rfl
  rw [Z.same] at st0
  have st0' : sStore G 23 (.pointer (some ⟨z, 0, none⟩)) (.agg #[.int .i64 0, .slice none 0 0, .slice none 0 0, .int .i64 0, .int .i64 0, .int .i64 0, .int .i64 0, .int .i64 0, .int .i64 0, .int .i64 0, .slice none 0 0, .int .i64 0, .int .i64 0, .int .i64 0, .int .i64 0, .int .i64 0, .int .i64 0, .int .i64 0, .int .i64 0, .int .i64 0, .int .i64 0, .bool false, .slice none 0 0]) = some G := st0
  by_cases hp : pe = 0
  case neg =>
    rw [if_pos hp] at hu
    have hpI : (pe != 0) = true := by simp [hp]
    simp [K16_13, t8, ld]
    refine goT_of iT ?_
    simp [hp, hpI, t2, st0']
    exact hQ1 _ _ (by simp [t2]) (by simp [hu]) (by rw [hu]; exact hp) on Z
  subst hp
  rw [if_neg (by simp)] at hu
  simp [K16_13, t8, ld]
  refine goT_of iT ?_
  simp [K16_14, t8, ld]
  refine goA_of w kE ?_
  rintro o G2 ⟨on2, y, rfl, oy, ny⟩ w2 b2 n2
  have on02 := on.trans on2
  have X2 := Bs.keep w on2.base on2.keep X
  have s1 := toStr_bs (own_bs oy)
  have s2 := toStr_bs X2
  obtain ⟨u1, hu1⟩ : ∃ u, u = strB pv.2 := ⟨_, rfl⟩
  obtain ⟨u2, hu2⟩ : ∃ u, u = strB b := ⟨_, rfl⟩
  rw [← hu1] at s1 hu
  rw [← hu2] at s2 hu
  obtain ⟨ya, hy⟩ := oy.len
  have nty : notTup y = true := by rw [hy]; rfl
  have Z2 := Z.on w on2
  have V2 := V.on w on2
  have ld2 := V2.loadA (m := 23) hl
  have st1 := Z2.storeA (m := 23) (by decide) zer23 rfl rfl
  rw [Z2.same] at st1
  have st1' : sStore G2 23 (.pointer (some ⟨z, 0, none⟩)) (.agg #[.int .i64 0, .slice none 0 0, .slice none 0 0, .int .i64 0, .int .i64 0, .int .i64 0, .int .i64 0, .int .i64 0, .int .i64 0, .int .i64 0, .slice none 0 0, .int .i64 0, .int .i64 0, .int .i64 0, .int .i64 0, .int .i64 0, .int .i64 0, .int .i64 0, .int .i64 0, .int .i64 0, .int .i64 0, .bool false, .slice none 0 0]) = some G2 := st1
  have st2 := Z2.storeA (m := 23) (by decide) cs hl rfl
  by_cases hv : pv.1 = 0
  case neg =>
    rw [if_pos hv] at hu
    have hvI : (pv.1 != 0) = true := by simp [hv]
    simp [nty, hv, hvI, t2, st1']
    exact hQ1 _ _ (by simp [t2]) (by simp [hu]) (by rw [hu]; decide) on02 Z2
  rw [if_neg (by simpa using hv)] at hu
  have hvI : (pv.1 != 0) = false := by simp [hv]
  have hse : sBin .neq (.string u1) (.string u2) = some (.bool (!(u1.toList == u2.toList))) := rfl
  by_cases hs : u1.toList = u2.toList
  · rw [if_pos hs] at hu
    have hsI : (u1.toList == u2.toList) = true := by simp [hs]
    rw [hsI] at hse
    obtain ⟨n1, n3⟩ := nz G2 on2
    simp [nty, hv, hvI, s1, t0, s2, hse, K16_15, t8, ld2, t2, hl, st2, K16_16]
    exact hQ2 _ _ cs xc xr xk (.slice a ents.length c) (by simp [t2]) (by simp [hu]) hu (on02.put hz _) (Z2.put _) hl hcs n1 n3
  · rw [if_neg hs] at hu
    have hsI : (u1.toList == u2.toList) = false := by simp [hs]
    rw [hsI] at hse
    simp [nty, hv, hvI, s1, t0, s2, hse, t2, st1']
    exact hQ1 _ _ (by simp [t2]) (by simp [hu]) (by rw [hu]; decide) on02 Z2
end Go.Proofs.YtnomffikflfilaaGreat.E8
namespace Go.Proofs.YtnomffikflfilaaGreat.E8
open I8
open Go.Ot Go.RowKit
open R14 (ci Twos)
set_option linter.unusedSimpArgs false
set_option linter.unusedVariables false
set_option maxRecDepth 100000
theorem Rn.onR {H G G' : Heap} {p : Nat} {x : Value} {b l : List Nat} {f : Nat} (h : Rn H G p x b l f) (o : On G G') : Rn H G' p x b l f := by
  have hn := h.next
  have hp := h.hp
  exact ⟨h.rs.frame o.base (o.keep p (by omega)) (fun c hc => o.keep c (by have := h.xl c hc; omega)), h.wf0, o.wf, o.base.trans h.base, Nat.le_trans hn o.next, fun c hc hn2 => (o.keep c (by omega)).trans (h.same c hc hn2), hp, h.xl⟩
theorem Rn.on0 {H0 H G : Heap} {p : Nat} {x : Value} {b l : List Nat} {f : Nat} (h : Rn H G p x b l f) (on : On H0 H) (hp0 : H0.next ≤ p) : On H0 G :=
  ⟨h.wf, h.base.trans on.base, Nat.le_trans on.next h.next, fun c hc => (h.same c (Nat.lt_of_lt_of_le hc on.next) (by simp; omega)).trans (on.keep c hc)⟩
theorem zer_store {G : Heap} {z : Nat} (Z : Vr G z 42 23 zer23) : sStore G 23 (.pointer (some ⟨z, 0, none⟩)) (.agg #[.int .i64 0, .slice none 0 0, .slice none 0 0, .int .i64 0, .int .i64 0, .int .i64 0, .int .i64 0, .int .i64 0, .int .i64 0, .int .i64 0, .slice none 0 0, .int .i64 0, .int .i64 0, .int .i64 0, .int .i64 0, .int .i64 0, .int .i64 0, .int .i64 0, .int .i64 0, .int .i64 0, .int .i64 0, .bool false, .slice none 0 0]) = some G := by
  have st := Z.storeA (m := 23) (by decide) zer23 rfl rfl
  rw [Z.same] at st
  exact st
theorem tail_w {H H2 G : Heap} {p q z N : Nat} {x yr : Value} {b B l : List Nat} {f : Nat} {P : Jp} {xc xr xk : Value} (on : On H H2) (hp0 : H.next ≤ p) (hz : H.next ≤ z) (hz2 : z < H2.next) (hzp : z ≠ p) (R : Rn H2 G p yr B l f) (hlt : Lt8 l) (hq : H2.next ≤ q) (Z : Vr H2 z 42 23 zer23)
    (V : Vr G q 42 23 (runC (P.jb xc xr xk) (cfgOf [] false) (.slice none 0 0))) (hN : q < N) (hNG : N ≤ G.next) (J : JrF N G P xc xr xk) (BP : JpB P) (X : Bs H x b) (hw : H.WF) (hpre : preS (openB b).2 = preS.preT P l f) (ho : (openB b).1 = 0)
    {Q : Post} {t : Tm} (t0 : t 0 = x) (t2 : t 2 = ptr z) (t6 : t 6 = ptr p) (t8 : t 8 = ptr q) (hQ : FinU H b z Q) : wpA Tryz.prog K16_8 Q t (rdy G) := by
  have hpH := R.hp
  have hqp : q ≠ p := by omega
  have hqz : q ≠ z := by omega
  have hu : unE b = finE b (preS.preT P l f) := by unfold unE; rw [if_neg (by simp [ho]), hpre]
  have nE := numbersO_E R.wf q
  simp [K16_8, t8]
  refine goA_of R.wf nE ?_
  rintro o G1 ⟨rfl, on1⟩ w1 b1 n1
  have R1 := R.onR on1
  have V1 := V.on R.wf on1
  simp
  refine cfg_w R1 hq V1 rfl (by simp [t6]) (by simp [t8]) (by simp) (by simp) ?_
  intro t1 G2 u0 u2 u6 u8 R2 V2 sm2 n2
  simp [t0, t2] at u0 u2
  unfold preS.preT at hu hpre
  unfold cfgS at hu hpre
  have htb := tenS_B 10 l f []
  obtain ⟨T, hT⟩ : ∃ T, T = tenS 10 l f [] := ⟨_, rfl⟩
  rw [← hT] at R2 V2 hu hpre htb
  obtain ⟨tl, ts⟩ := htb
  have tl10 : T.1.length = 10 := by simpa using tl
  obtain ⟨a0, a1, a2, a3, a4, a5, a6, a7, a8, a9, hTa⟩ := ten_of tl10
  have lt2 : Lt8 T.2.1 := hlt.suf ts
  rw [hTa] at V2
  have V2 : Vr G2 q 42 23 (runC (P.jb xc xr xk) (cfgOf [a0, a1, a2, a3, a4, a5, a6, a7, a8, a9] false) (.slice none 0 0)) := V2
  have T3 := rflag_T R2.rs
  have R3 := R2.step (flagS T.2.1 T.2.2).2.2 (flagS_suf T.2.1 T.2.2)
  have lt3 : Lt8 (flagS T.2.1 T.2.2).2.1 := lt2.suf (flagS_suf _ _)
  simp only at hu hpre
  obtain ⟨F, hF⟩ : ∃ F, F = flagS T.2.1 T.2.2 := ⟨_, rfl⟩
  rw [← hF] at T3 R3 lt3 hu hpre
  obtain ⟨G3, hG3⟩ : ∃ D, D = G2.put p (rsC yr B F.2.1 F.2.2) := ⟨_, rfl⟩
  have V3 : Vr G3 q 42 23 (runC (P.jb xc xr xk) (cfgOf [a0, a1, a2, a3, a4, a5, a6, a7, a8, a9] false) (.slice none 0 0)) := by rw [hG3]; exact V2.beside hqp _
  rw [← hG3] at T3 R3
  have st3 := V3.store 21 (.bool F.1) (by simp)
  obtain ⟨C, hC⟩ : ∃ C, C = cfgOf [a0, a1, a2, a3, a4, a5, a6, a7, a8, a9] F.1 := ⟨_, rfl⟩
  have V4 := V3.put (runC (P.jb xc xr xk) C (.slice none 0 0))
  have R4 := R3.put hq (runC (P.jb xc xr xk) C (.slice none 0 0))
  have st3' : G3.store ⟨q, 21, none⟩ (.bool F.1) = some (G3.put q (runC (P.jb xc xr xk) C (.slice none 0 0))) := by rw [hC]; exact st3
  rw [hTa, ← hC] at hu hpre
  obtain ⟨G4, hG4⟩ : ∃ D, D = G3.put q (runC (P.jb xc xr xk) C (.slice none 0 0)) := ⟨_, rfl⟩
  rw [← hG4] at V4 R4 st3'
  have n4 : G4.next = G1.next := by rw [hG4, hG3]; exact n2.symm
  have b4 : G4.base = G1.base := by rw [hG4, hG3]; exact R2.base.trans R1.base.symm
  have k4 : ∀ c, c < G1.next → c ≠ p → c ≠ q → G4.blk c = G1.blk c := fun c h1 h2 h3 => by rw [hG4, hG3]; simp [h2, h3]; exact sm2 c h1 (by simp [h2, h3])
  obtain ⟨v5, G5, T5, y, rfl, R5', own5, new5⟩ := takeEntries_T R4.self
  have R5 := R4.trans R5'
  have eb := entS_B (f := F.2.2) lt3
  obtain ⟨S, hS⟩ : ∃ S, S = entS F.2.1 F.2.2 := ⟨_, rfl⟩
  rw [← hS] at T5 R5 own5 eb hu hpre
  have n5 := R5'.next
  have hq4 := R4.wf.lt V4.bq
  have V5 := V4.keep R5'.base (R5'.same q hq4 (by simpa using hqp))
  obtain ⟨ya, hy⟩ := own5.len
  have ny : notTup y = true := by rw [hy]; rfl
  have st5 := V5.store 22 y (by simp)
  have V6 := V5.put (runC (P.jb xc xr xk) C y)
  have R6 := R5.put hq (runC (P.jb xc xr xk) C y)
  have st5' : sStore G5 1 (.pointer (some ⟨q, 22, none⟩)) y = some (G5.put q (runC (P.jb xc xr xk) C y)) := by
    have e : G5.store ⟨q, 22, none⟩ y = some (G5.put q (runC (P.jb xc xr xk) C y)) := st5
    rw [← e, hy]; simp
  obtain ⟨G6, hG6⟩ : ∃ D, D = G5.put q (runC (P.jb xc xr xk) C y) := ⟨_, rfl⟩
  rw [← hG6] at V6 R6 st5'
  have n6 : G6.next = G5.next := by rw [hG6]; rfl
  have Z6 : Vr G6 z 42 23 zer23 := Z.keep R6.base (R6.same z hz2 (by simpa using hzp))
  have on6 := R6.on0 on hp0
  have zs := zer_store Z6
  have T7 := rend_T R6.rs
  simp [K16_9, u6]
  refine goT_of T3 ?_
  simp [u8, st3', K16_10, u6]
  refine goT_of T5 ?_
  simp [ny, u8, st5', K16_11]
  by_cases hS1 : S.1 = 0
  case neg =>
    have hS1I : (S.1 != 0) = true := by simp [hS1]
    rw [if_pos hS1] at hu
    unfold finE at hu
    rw [if_pos hS1] at hu
    simp [hS1, hS1I, u2, zs]
    exact hQ.1 _ _ (by simp [u2]) (by simp [hu]) (by rw [hu]; exact hS1) on6 Z6
  rw [if_neg (by simpa using hS1)] at hu hpre
  simp [hS1, K16_12, u6]
  refine goT_of T7 ?_
  obtain ⟨en, hen⟩ : ∃ e, e = endN S.2.2.1 S.2.2.2 := ⟨_, rfl⟩
  rw [← hen] at hu hpre ⊢
  by_cases he : en = 0
  case neg =>
    have heI : ((en : Int) != 0) = true := by simp [he]
    rw [if_pos he] at hu
    unfold finE at hu
    rw [if_pos (by simpa using he)] at hu
    simp only at hu
    simp [he, heI, u2, zs]
    exact hQ.1 _ _ (by simp [u2]) (by simp [hu]) (by rw [hu]; simpa using he) on6 Z6
  rw [if_neg (by simpa using he)] at hpre
  simp [he]
  have hyN : ∀ c, blkOf y = some c → c ≠ q ∧ c ≠ z ∧ c < G5.next := fun c hc => by have h1 := new5 c hc; have h2 := own5.lt R5.wf hc; have := R4.next; exact ⟨by omega, by omega, h2⟩
  have E5 := Own.rl own5
  have JF6 : JrF N G6 P xc xr xk := by
    refine J.fr (R6.base.trans R.base.symm) (by have := on1.next; omega) (fun c h1 h2 => ?_)
    have hc1 : c < G1.next := by have := on1.next; omega
    rw [hG6]; simp [show c ≠ q by omega]
    rw [R5'.same c (by omega) (by simp; omega), k4 c hc1 (by omega) (by omega), on1.keep c h2]
  have E6 : Rl G6 y S.2.1 := Rws.frm E5 (by rw [hG6]; rfl) (fun c hc => by rw [hG6]; simp [(hyN c hc).1])
  rw [hy] at V6 E6
  refine fin_w (P := P) (C := C) (ents := S.2.1) (x := x) on6 Z6 hz V6 JF6.jr BP E6 eb.1 eb.2 (Bs.keep hw on6.base on6.keep X) (fun G2 on2 => ?_) hpre ho (by simp [u0]) (by simp [u2]) (by simp [u8]) hQ
  have kz : ∀ (cs : List Value) (c : Nat), c < G6.next → c ≠ z → (G2.put z cs).blk c = G6.blk c := fun cs c h1 h2 => by simp [h2]; exact on2.keep c h1
  refine ⟨JF6 _ (by simpa using on2.base) (fun c h1 h2 => kz _ c h2 (by omega)), Rws.frm E6 (by simpa using on2.base) (fun c hc => ?_)⟩
  rw [← hy] at hc
  exact kz _ c (by rw [n6]; exact (hyN c hc).2.2) (hyN c hc).2.1
theorem openB_lt {b : List Nat} (h : Lt8 b) : Lt8 (openB b).2 := by
  unfold openB
  split
  · intro c h; cases h
  · split
    · intro c h; cases h
    · split
      · intro c h; cases h
      · intro c hc; exact h c (List.mem_of_mem_drop hc)
theorem openB_len (b : List Nat) : (openB b).2.length ≤ b.length := by
  unfold openB
  split
  · simp
  · split
    · simp
    · split
      · simp
      · simp
theorem unpack_E {H : Heap} (hw : H.WF) {x : Value} {b : List Nat} (h : Bs H x b) (hb : Lt8 b) (hl : b.length ≤ 2000000) : TE Tryz.prog 16 [x] H (UnQ H b) := by
  refine TE_by hm light16 ?_
  rw [L16_eq]
  obtain ⟨HA, hHA⟩ : ∃ HA, HA = H.new 42 23 zer23 := ⟨_, rfl⟩
  have onA : On H HA := by rw [hHA]; exact (On.refl hw).new _ _ _
  have vA : Vr HA H.next 42 23 zer23 := by rw [hHA]; exact Vr.mk' hw _ _ _
  have wA := onA.wf
  have nA : HA.next = H.next + 1 := by rw [hHA]; rfl
  obtain ⟨v1, H1, T1, y, rfl, g1⟩ := open_T wA (Bs.keep hw onA.base onA.keep h) hb (by omega)
  have on1 : On HA H1 := ⟨g1.wf, g1.base, g1.next, OG.olds g1⟩
  have on01 := onA.trans on1
  obtain ⟨ya, hy⟩ := g1.own.len
  have ny : notTup y = true := by rw [hy]; rfl
  have Z1 := vA.on wA on1
  have zs1 := zer_store Z1
  have hHA2 : H.new 42 23 [iv 0, .slice none 0 0, .slice none 0 0, iv 0, iv 0, iv 0, iv 0, iv 0, iv 0, iv 0, .slice none 0 0, iv 0, iv 0, iv 0, iv 0, iv 0, iv 0, iv 0, iv 0, iv 0, iv 0, .bool false, .slice none 0 0] = HA := hHA.symm
  have hFin : FinU H b H.next (EndA (fun v H' => UnQ H b (.ret v) H') [.cell 2 true 23, .tmp 3]) := by
    refine ⟨fun t' G' u2 u3 hne on Z => ?_, fun t' G' cs xc xr xk yy u2 u3 he on Z hl hcs J E => ?_⟩
    · have ld := Z.loadA (m := 23) rfl
      simp [u2, u3, ld]
      exact ⟨on, _, rfl, fun _ => rfl, fun h => absurd h hne⟩
    · have ld := Z.loadA (m := 23) hl
      simp [u2, u3, ld]
      exact ⟨on, cs, rfl, fun h => absurd he h, fun _ => ⟨xc, xr, xk, yy, hcs, J, E⟩⟩
  generalize EndA (fun v H' => UnQ H b (.ret v) H') [.cell 2 true 23, .tmp 3] = Q at hFin ⊢
  simp [K16_0, hHA2, K16_1]
  refine goT_of T1 ?_
  simp [ny, K16_2]
  by_cases ho : (openB b).1 = 0
  case neg =>
    have hu : unE b = (openB b).1 := by unfold unE; rw [if_pos ho]
    have hoI : (((openB b).1 : Int) != 0) = true := by simp [ho]
    simp [ho, hoI, zs1]
    refine hFin.1 _ _ (by simp) (by simp [hu]) (by rw [hu]; simpa using ho) on01 Z1
  have ltB := openB_lt hb
  have lnB := openB_len b
  obtain ⟨B, hB⟩ : ∃ B, B = (openB b).2 := ⟨_, rfl⟩
  have g1o := g1.own
  rw [← hB] at ltB lnB g1o
  obtain ⟨v2, H2, T2, p, yr, rfl, rd, np, w2, b2, sm2, yl, yn⟩ := read_T2 g1.wf (own_bs g1o) ltB (by omega)
  have n2 := T2.grow.next
  have on12 : On H1 H2 := ⟨w2, b2, n2, fun c hc => sm2 c hc (by simp)⟩
  have on02 := on01.trans on12
  have Z2 := Z1.on g1.wf on12
  have R2 : Rn H2 H2 p yr B B 0 := Rn.refl w2 ⟨by simpa using rd, List.suffix_refl _⟩ yl
  have nH1 := on1.next
  have hzl := w2.lt Z2.bq
  have hzp : H.next ≠ p := by omega
  have T3 := ruint_T R2.rs
  have R3 := R2.step (uS B 0).2.2 (uS_suf B 0)
  have lt3 : Lt8 (uS B 0).2.1 := ltB.suf (uS_suf B 0)
  have ln3 := (uS_suf B 0).length_le
  obtain ⟨pre, hpre⟩ : ∃ r, r = preS B := ⟨_, rfl⟩
  have hu : unE b = finE b pre := by unfold unE; rw [if_neg (by simpa using ho), hpre, hB]
  unfold preS at hpre
  obtain ⟨U, hU⟩ : ∃ U, U = uS B 0 := ⟨_, rfl⟩
  rw [← hU] at T3 R3 lt3 ln3 hpre
  obtain ⟨H3, hH3⟩ : ∃ D, D = H2.put p (rsC yr B U.2.1 U.2.2) := ⟨_, rfl⟩
  rw [← hH3] at T3 R3
  have T3f := fail_S R3.rs
  have n3 : H3.next = H2.next := by rw [hH3]; rfl
  have Z3 : Vr H3 H.next 42 23 zer23 := by rw [hH3]; exact Z2.beside hzp _
  have on3 := R3.on0 on02 (by omega)
  have zs3 := zer_store Z3
  simp [ho, K16_3]
  refine goT_of T2 ?_
  simp [K16_4]
  refine goT_of T3 ?_
  simp
  have rest : ∀ (t : Tm), ¬ (U.1 ≠ 1 ∧ U.2.2 = 0) → t 0 = x → t 2 = ptr H.next → t 6 = ptr p → wpA Tryz.prog K16_5 Q t (rdy H3) := by
    intro t hgo t0 t2 t6
    rw [if_neg hgo] at hpre
    have V4 : Vr (H3.new 42 23 zer23) H3.next 42 23 zer23 := Vr.mk' R3.wf _ _ _
    have R4 := R3.new 42 23 zer23
    have n4 : (H3.new 42 23 zer23).next = H2.next + 1 := by simp [n3]
    obtain ⟨H4, hH4⟩ : ∃ D, D = H3.new 42 23 zer23 := ⟨_, rfl⟩
    have hH42 : H3.new 42 23 [iv 0, .slice none 0 0, .slice none 0 0, iv 0, iv 0, iv 0, iv 0, iv 0, iv 0, iv 0, .slice none 0 0, iv 0, iv 0, iv 0, iv 0, iv 0, iv 0, iv 0, iv 0, iv 0, iv 0, .bool false, .slice none 0 0] = H4 := hH4.symm
    rw [← hH4] at V4 R4 n4
    rw [n3] at V4
    have hpp := R2.hp
    obtain ⟨v5, H5, T5, cs, rfl, R5', hcl, hj⟩ := takeJob_T R4.self (by omega)
    have R5 := R4.trans R5'
    have jB := jobS_B (f := U.2.2) lt3 (by omega)
    obtain ⟨J5, hJ5⟩ : ∃ J, J = jobS U.2.1 U.2.2 := ⟨_, rfl⟩
    rw [← hJ5] at T5 R5 R5' hj jB hpre
    have n5 := R5'.next
    have V5 := V4.keep R5'.base (R5'.same _ (by omega) (by simp; omega))
    have st5 := Vr.storeP V5 (o := 0) (m := 11) (by decide) cs hcl (by simp)
    have V6 := V5.put ((zer23.take 0) ++ cs ++ zer23.drop (0 + 11))
    have R6 := R5.put (Nat.le_refl _) ((zer23.take 0) ++ cs ++ zer23.drop (0 + 11))
    obtain ⟨c6, hc6⟩ : ∃ c6, c6 = (zer23.take 0) ++ cs ++ zer23.drop (0 + 11) := ⟨_, rfl⟩
    rw [← hc6] at st5 V6 R6
    obtain ⟨H6, hH6⟩ : ∃ D, D = H5.put H2.next c6 := ⟨_, rfl⟩
    rw [← hH6] at st5 V6 R6
    have Z6 : Vr H6 H.next 42 23 zer23 := Z2.keep R6.base (R6.same _ (by omega) (by simpa using hzp))
    have on6 := R6.on0 on02 (by omega)
    have zs6 := zer_store Z6
    simp [K16_5, hH42, n3, K16_6, t6]
    refine goT_of T5 ?_
    simp [hcl, st5, K16_7]
    by_cases hj1 : J5.1 = 0
    case neg =>
      have hjI : (J5.1 != 0) = true := by simp [hj1]
      rw [if_pos hj1] at hpre
      have hu2 : unE b = J5.1 := by rw [hu, hpre]; unfold finE; rw [if_pos hj1]
      simp [hj1, hjI, t2, zs6]
      exact hFin.1 _ _ (by simp [t2]) (by simp [hu2]) (by rw [hu2]; exact hj1) on6 Z6
    rw [if_neg (by simpa using hj1)] at hpre
    obtain ⟨xc, xr, xk, hcs, JF⟩ := hj hj1
    have hc6' : c6 = runC (J5.2.1.jb xc xr xk) (cfgOf [] false) (.slice none 0 0) := by rw [hc6, hcs]; rfl
    rw [hc6'] at V6
    have JF6 : JrF H4.next H6 J5.2.1 xc xr xk := JF.fr (by rw [hH6]; rfl) (by rw [hH6]; exact Nat.le_refl _) (fun c h1 h2 => by rw [hH6]; simp [show c ≠ H2.next by omega])
    simp [hj1]
    refine tail_w (N := H4.next) on02 (by omega) (Nat.le_refl _) hzl hzp R6 (lt3.suf jB.2) (Nat.le_refl _) Z2 V6 (by omega) (by rw [hH6]; simpa using n5) JF6 jB.1 h hw (by rw [← hB, ← hpre]; unfold preS; rw [← hU, if_neg hgo, ← hJ5, if_neg (by simpa using hj1)]; exact hpre.symm ▸ rfl) ho (by simp [t0]) (by simp [t2]) (by simp [t6]) (by simp) hFin
  by_cases hv : U.1 = 1
  · simp [hv]
    exact rest _ (fun h => h.1 hv) (by simp) (by simp) (by simp)
  · have hvI : (((U.1 : Nat) : Int) != 1) = true := by simp; omega
    simp [hv, hvI]
    refine goT_of T3f ?_
    by_cases hf : U.2.2 = 0
    · rw [if_pos ⟨hv, hf⟩] at hpre
      have hu2 : unE b = 260 := by rw [hu, hpre]; rfl
      simp [hf, zs3]
      exact hFin.1 _ _ (by simp) (by simp [hu2]) (by rw [hu2]; decide) on3 Z3
    · have hfI : ((U.2.2 : Int) == 0) = false := by simp; omega
      simp [hf, hfI]
      exact rest _ (fun h => hf h.2) (by simp) (by simp) (by simp)
end Go.Proofs.YtnomffikflfilaaGreat.E8
namespace Go.Proofs.YtnomffikflfilaaGreat.E8
open I8
open Go.Ot Go.ChangeShapes Go.WideShapes Go.ChangeAt Go.RowKit
open R14 (ci Twos)
set_option linter.unusedSimpArgs false
set_option linter.unusedVariables false
set_option maxRecDepth 100000
theorem preS_B {B : List Nat} (hB : Lt8 B) (hl : B.length ≤ 2000000) : JpB (preS B).2.1 ∧ (∀ e ∈ (preS B).2.2.2, okI e.1) ∧ (preS B).2.2.2.length ≤ 40000 := by
  have z : JpB (jp0 0) ∧ (∀ e ∈ ([] : List Ent), okI e.1) ∧ ([] : List Ent).length ≤ 40000 := ⟨jp0_B 0, fun e h => (by cases h), by simp⟩
  have lt3 : Lt8 (uS B 0).2.1 := hB.suf (uS_suf B 0)
  have ln3 := (uS_suf B 0).length_le
  unfold preS
  obtain ⟨U, hU⟩ : ∃ U, U = uS B 0 := ⟨_, rfl⟩
  rw [← hU] at lt3 ln3 ⊢
  split
  · exact z
  have jB := jobS_B (f := U.2.2) lt3 (by omega)
  obtain ⟨J5, hJ5⟩ : ∃ J, J = jobS U.2.1 U.2.2 := ⟨_, rfl⟩
  rw [← hJ5] at jB ⊢
  split
  · exact z
  unfold preS.preT
  have hc := cfgS_suf J5.2.2.1 J5.2.2.2
  obtain ⟨C, hC⟩ : ∃ C, C = cfgS J5.2.2.1 J5.2.2.2 := ⟨_, rfl⟩
  rw [← hC] at hc ⊢
  have eb := entS_B (f := C.2.2) ((lt3.suf jB.2).suf hc)
  obtain ⟨S, hS⟩ : ∃ S, S = entS C.2.1 C.2.2 := ⟨_, rfl⟩
  rw [← hS] at eb ⊢
  split
  · exact z
  split
  · exact z
  exact ⟨jB.1, eb⟩
end Go.Proofs.YtnomffikflfilaaGreat.E8
