/-
  Chapter 21: New. Chapter 21: Live, Free, and Put where there is no room. Chapter 21: Put and Drop whole, with the number of free places. Chapter 21: what Older answers, by what the store holds. Chapter 21: the chapter's example holds. Chapter 21: the kind of a call. Chapter 21: rows of calls, and those that come in.
-/
import Derived.Test.YthclcdboialfnaaSeatH
namespace Go.Proofs.Ythclcdboialfnaa
open Go.Ot Go.RowKit
set_option linter.unusedSimpArgs false
set_option linter.unusedVariables false
theorem N_byX {P : Program} (hm : P.follows .mixedOrders = true) {f : FuncId} {n : Nat} {lc : LCode} {lr : List LRes} {args : List Value} (hL : LightX P f args.length n lc lr) {H : Heap} {Q : Value → Heap → Prop}
    (h : wpA P lc (EndA Q lr) (initT args) (rdy H)) : TN P f args H fun o H' => ∃ v, o = .ret v ∧ Q v H' := by
  intro ρ w args' hR hargs
  refine (calls_of_wpAX hm hL h hR hargs).mono ?_
  rintro en w' ⟨v, v', H1, ρ', hq, rfl, hb, hle, hr, hR'⟩
  exact ⟨.ret v, H1, ρ', ⟨v, rfl, hq⟩, by simpa [endR] using hr, hb, hle, hR'⟩
theorem mkST {H1 HF : Heap} (hw1 : H1.WF) {pa fb ub vb cb mb p W R : Nat} (hW : 1 ≤ W ∧ W ≤ 64) (hR : 1 ≤ R ∧ R ≤ 512) (ar : AR H1 pa fb ub (frI R 0) (List.replicate R false)) (hb : HF.B = H1.B) (keep : ∀ b, b < H1.next → HF.blk b = H1.blk b)
    (n1 : H1.next ≤ vb) (n2 : H1.next ≤ cb) (n3 : H1.next ≤ mb) (n4 : H1.next ≤ p) (k1 : HF.blk vb = some ⟨2, 1, List.replicate R (iv 0)⟩) (k2 : HF.blk cb = some ⟨66, 1, List.replicate W (.slice none 0 0)⟩) (k3 : HF.blk mb = some ⟨0, 0, mcells 0 []⟩)
    (k4 : HF.blk p = some ⟨60, 4, [ptr pa, sl vb R, sl cb W, .map (some mb)]⟩) {n0 : Nat} (m1 : n0 ≤ pa) (m2 : n0 ≤ fb) (m3 : n0 ≤ ub) (m4 : n0 ≤ H1.next) {X : Prop} (hX : X) :
    ∃ D, ST HF p D ∧ PL D W R ∧ D.fr.length = R ∧ (∀ b g, cont D b g = none) ∧ (∀ b, Mine p D b → n0 ≤ b) ∧ X := by
  have hnB := hw1.next_ge
  have fl := frI_len R 0
  refine ⟨⟨pa, fb, ub, vb, cb, mb, frI R 0, List.replicate R false, List.replicate R 0, List.replicate W (.slice none 0 0), List.replicate W [], fun _ => 0⟩, ?_, ?_, by simpa using fl, ?_, ?_, hX⟩
  · refine ⟨by rw [hb]; omega, by simpa using k4, ar.keep hb (keep _ (hw1.lt ar.bp)) (keep _ (ar.ltf hw1)) (keep _ (hw1.lt ar.bu)), (by rw [hb]; omega : ¬ vb < HF.B), by simpa using k1, (by rw [hb]; omega : ¬ cb < HF.B), k2, (by rw [hb]; omega : ¬ mb < HF.B), ⟨0, [], k3, ⟨by intro e he; simp at he, by simp, by intro k hk; simp at hk, by simp, by intro e he; simp at he⟩, by intro e he; simp at he⟩, by simp, fun i h1 h2 => .inl (by simp), fun i j hi hj b hij h1 => ?_⟩
    simp only [List.getElem_replicate] at h1
    cases h1
  · refine ⟨⟨by simp, by simp, by simp, by simp, by omega, by omega, fun a h => by simp [Rise], fun a h => by simp, ⟨fun _ => none, fun a h q hq => by simp at hq⟩, fun t ht => ?_, ?_, by simp [frI_len]⟩, fun g => ?_⟩
    · simp only [frI, List.mem_map, List.mem_reverse, List.mem_range'_1] at ht
      obtain ⟨m, hm, rfl⟩ := ht
      refine ⟨by omega, by omega, ?_⟩
      simp only [List.getD, List.getElem?_replicate]
      split <;> rfl
    · refine List.pairwise_map.2 ?_
      refine List.Pairwise.imp (R := fun a b : Nat => a ≠ b) (fun h e => h (Int.ofNat.inj e)) ?_
      rw [List.pairwise_reverse]
      exact (List.nodup_range' (s := 0) (n := R - 0)).imp (fun h e => h e.symm)
    · have : manyF (cont ⟨pa, fb, ub, vb, cb, mb, frI R 0, List.replicate R false, List.replicate R 0, List.replicate W (.slice none 0 0), List.replicate W [], fun _ => 0⟩) g W = manyF (fun _ _ => none) g W := manyF_same W (fun b hb => by
        unfold cont
        simp [List.getD, hb])
      rw [this]
      have : manyF (fun _ _ => none) g W = 0 := by unfold manyF; simp
      rw [this]; rfl
  · intro b g
    unfold cont
    by_cases h : b < W
    · simp [List.getD, h]
    · simp [List.getD, h]
  · intro b hb
    rcases hb with rfl | rfl | rfl | rfl | rfl | rfl | rfl | ⟨x, hx, hb⟩
    · omega
    · exact m1
    · exact m2
    · exact m3
    · exact Nat.le_trans m4 n1
    · exact Nat.le_trans m4 n2
    · exact Nat.le_trans m4 n3
    · simp only [List.mem_replicate] at hx
      rw [hx.2] at hb
      cases hb
theorem new_N {H : Heap} (hw : H.WF) {W R : Nat} (hW : 1 ≤ W ∧ W ≤ 64) (hR : 1 ≤ R ∧ R ≤ 512) :
    TN Try.prog 6 [iv W, iv R] H fun o H' => ∃ v, o = .ret v ∧ ∃ p D, v = .tuple #[ptr p, iv 0] ∧ ST H' p D ∧ PL D W R ∧ D.fr.length = R ∧ (∀ b g, cont D b g = none) ∧ (∀ b, Mine p D b → H.next ≤ b) ∧ ∀ b, b < H.next → H'.blk b = H.blk b := by
  refine N_byX hm lightX6 ?_
  have h1 : ¬ (W : Int) < 1 := by omega
  have h2 : ¬ (64 : Int) < (W : Int) := by omega
  obtain ⟨v, H1, tN, pa, fb, ub, rfl, ar, sm, q1, q2, q3⟩ := new_T hw (n := (R : Int)) (by omega)
  simp [L6, h1, h2]
  refine goT_of tN ?_
  have r1 : (R : Int) ≤ 9223372036854775807 := by omega
  have r2 : (R : Int) ≤ 140737488355328 := by omega
  have w1 : (W : Int) ≤ 9223372036854775807 := by omega
  have w2 : (W : Int) ≤ 140737488355328 := by omega
  have r3 : R * 8 ≤ 140737488355328 := by omega
  have w3 : W * 24 ≤ 140737488355328 := by omega
  have r4 : 8 * (R : Int) ≤ 140737488355328 := by omega
  have w4 : 24 * (W : Int) ≤ 140737488355328 := by omega
  have cm : ∀ b, (Value.map (some b)).cells = #[.map (some b)] := fun _ => rfl
  have tm : ∀ b, notTup (Value.map (some b)) = true := fun _ => rfl
  have hw1 := tN.2.2.1 hw
  have hn1 := tN.2.1
  have hnB := hw1.next_ge
  have ok : ∀ b, b < H.next → H1.blk b = H.blk b := fun b hb => sm b hb (by simp)
  simp only [Int.toNat_natCast] at ar
  simp [sMake, r1, r2, w1, w2, r3, w3, r4, w4, cm, tm, zerosA_one, packV]
  have e1 : ∀ b, b < H1.next → b ≠ H1.next ∧ b ≠ H1.next + 1 ∧ b ≠ H1.next + 1 + 1 ∧ b ≠ H1.next + 1 + 1 + 1 := fun b hb => by omega
  have f1 : H1.next ≠ H1.next + 1 := by omega
  have f2 : H1.next ≠ H1.next + 1 + 1 := by omega
  have f3 : H1.next ≠ H1.next + 1 + 1 + 1 := by omega
  have f4 : H1.next + 1 ≠ H1.next + 1 + 1 := by omega
  have f5 : H1.next + 1 ≠ H1.next + 1 + 1 + 1 := by omega
  have f6 : H1.next + 1 + 1 ≠ H1.next + 1 + 1 + 1 := by omega
  refine ⟨?_, ?_, ?_, ?_, ?_, ?_⟩
  · refine mkST hw1 hW hR ar (vb := H1.next) (cb := (H1.next + 1)) (mb := (H1.next + 1 + 1)) (by simp) (fun b hb => by simp [e1 b hb]) (by omega) (by omega) (by omega) (by omega) (by simp [f1, f2, f3, f4, f5, f6]) (by simp [f1, f2, f3, f4, f5, f6]) (by simp [f1, f2, f3, f4, f5, f6]) (by simp [f1, f2, f3, f4, f5, f6]) q1 q2 q3 hn1 (fun b hb => ?_)
    have hb1 := e1 b (by omega)
    simp [hb1, ok b hb]
  · refine mkST hw1 hW hR ar (vb := H1.next) (cb := (H1.next + 1 + 1)) (mb := (H1.next + 1)) (by simp) (fun b hb => by simp [e1 b hb]) (by omega) (by omega) (by omega) (by omega) (by simp [f1, f2, f3, f4, f5, f6]) (by simp [f1, f2, f3, f4, f5, f6]) (by simp [f1, f2, f3, f4, f5, f6]) (by simp [f1, f2, f3, f4, f5, f6]) q1 q2 q3 hn1 (fun b hb => ?_)
    have hb1 := e1 b (by omega)
    simp [hb1, ok b hb]
  · refine mkST hw1 hW hR ar (vb := (H1.next + 1)) (cb := H1.next) (mb := (H1.next + 1 + 1)) (by simp) (fun b hb => by simp [e1 b hb]) (by omega) (by omega) (by omega) (by omega) (by simp [f1, f2, f3, f4, f5, f6]) (by simp [f1, f2, f3, f4, f5, f6]) (by simp [f1, f2, f3, f4, f5, f6]) (by simp [f1, f2, f3, f4, f5, f6]) q1 q2 q3 hn1 (fun b hb => ?_)
    have hb1 := e1 b (by omega)
    simp [hb1, ok b hb]
  · refine mkST hw1 hW hR ar (vb := (H1.next + 1 + 1)) (cb := H1.next) (mb := (H1.next + 1)) (by simp) (fun b hb => by simp [e1 b hb]) (by omega) (by omega) (by omega) (by omega) (by simp [f1, f2, f3, f4, f5, f6]) (by simp [f1, f2, f3, f4, f5, f6]) (by simp [f1, f2, f3, f4, f5, f6]) (by simp [f1, f2, f3, f4, f5, f6]) q1 q2 q3 hn1 (fun b hb => ?_)
    have hb1 := e1 b (by omega)
    simp [hb1, ok b hb]
  · refine mkST hw1 hW hR ar (vb := (H1.next + 1)) (cb := (H1.next + 1 + 1)) (mb := H1.next) (by simp) (fun b hb => by simp [e1 b hb]) (by omega) (by omega) (by omega) (by omega) (by simp [f1, f2, f3, f4, f5, f6]) (by simp [f1, f2, f3, f4, f5, f6]) (by simp [f1, f2, f3, f4, f5, f6]) (by simp [f1, f2, f3, f4, f5, f6]) q1 q2 q3 hn1 (fun b hb => ?_)
    have hb1 := e1 b (by omega)
    simp [hb1, ok b hb]
  · refine mkST hw1 hW hR ar (vb := (H1.next + 1 + 1)) (cb := (H1.next + 1)) (mb := H1.next) (by simp) (fun b hb => by simp [e1 b hb]) (by omega) (by omega) (by omega) (by omega) (by simp [f1, f2, f3, f4, f5, f6]) (by simp [f1, f2, f3, f4, f5, f6]) (by simp [f1, f2, f3, f4, f5, f6]) (by simp [f1, f2, f3, f4, f5, f6]) q1 q2 q3 hn1 (fun b hb => ?_)
    have hb1 := e1 b (by omega)
    simp [hb1, ok b hb]
end Go.Proofs.Ythclcdboialfnaa
namespace Go.Proofs.Ythclcdboialfnaa
open Go.Ot Go.RowKit
set_option linter.unusedSimpArgs false
set_option linter.unusedVariables false
theorem afree_T {H : Heap} {p fb ub : Nat} {fr : List Int} {us : List Bool} (h : AR H p fb ub fr us) : T Try.prog 38 [ptr p] H (iv fr.length) H := by
  refine T_eq hm light38 ?_
  have l0 : H.load ⟨p, 0, none⟩ = some (sl fb fr.length) := by rw [load_at h.hp h.bp]; rfl
  simp [L38, l0]
theorem alive_T {H : Heap} {p fb ub : Nat} {fr : List Int} {us : List Bool} (h : AR H p fb ub fr us) (h1 : fr.length ≤ us.length) (h2 : us.length < 1000) : T Try.prog 29 [ptr p] H (iv ((us.length - fr.length : Nat) : Int)) H := by
  refine T_eq hm light29 ?_
  have l0 : H.load ⟨p, 0, none⟩ = some (sl fb fr.length) := by rw [load_at h.hp h.bp]; rfl
  have l1 : H.load ⟨p, 1, none⟩ = some (sl ub us.length) := by rw [load_at h.hp h.bp]; rfl
  have e1 : IntKind.i64.wrap ((us.length : Int) - (fr.length : Int)) = ((us.length - fr.length : Nat) : Int) := by rw [w64 _ (by omega)]; omega
  simp [L29, l0, l1, e1]
theorem sfree_T {H : Heap} {p : Nat} {D : SD} (h : ST H p D) : T Try.prog 23 [ptr p] H (iv D.fr.length) H := by
  refine T_eq hm light23 ?_
  simp [L23, h.l0]
  refine goT_of (afree_T h.ar) ?_
  simp
theorem slive_T {H : Heap} {p W R : Nat} {D : SD} (h : ST H p D) (pl : PL D W R) : T Try.prog 15 [ptr p] H (iv ((R - D.fr.length : Nat) : Int)) H := by
  refine T_eq hm light15 ?_
  have h1 := pl.frR
  have h2 := pl.hu
  have h3 := pl.R1
  have t := alive_T h.ar (by omega) (by omega)
  rw [h2] at t
  simp [L15, h.l0]
  refine goT_of t ?_
  simp
theorem take_full {H : Heap} {p fb ub : Nat} {us : List Bool} (h : AR H p fb ub [] us) : T Try.prog 21 [ptr p] H (.tuple #[iv 0, iv 200]) H := by
  refine T_eq hm light21 ?_
  have l0 : H.load ⟨p, 0, none⟩ = some (sl fb 0) := by rw [load_at h.hp h.bp]; rfl
  simp [L21, l0, packV]
theorem put_full {H : Heap} {p : Nat} {D : SD} (h : ST H p D) {a i : Nat} {age v : Int} (ha : a < D.xs.length) (h0 : 0 ≤ age) (hfr : D.fr = [])
    (pT : T Try.prog 20 [ptr p, iv a, iv age] H (.tuple #[iv i, .bool false]) H) : T Try.prog 8 [ptr p, iv a, iv age, iv v] H (iv 200) H := by
  refine T_eq hm light8 ?_
  have iT := inside_T h (a : Int)
  have hin : inV D (a : Int) = true := by simp [inV, ha]
  rw [hin] at iT
  have h0' : ¬ age < 0 := by omega
  have ar := h.ar
  rw [hfr] at ar
  simp [L8]
  refine goT_of iT ?_
  simp [h0']
  refine goT_of pT ?_
  simp [h.l0]
  refine goT_of (take_full ar) ?_
  simp
end Go.Proofs.Ythclcdboialfnaa
namespace Go.Proofs.Ythclcdboialfnaa
open Go.Ot Go.RowKit
set_option linter.unusedSimpArgs false
set_option linter.unusedVariables false
theorem cont_not {D : SD} {W R : Nat} (pl : PK D W R) {n : Nat} (ha' : n < D.ch.length) {age : Int} {i : Nat} (hP : PlaceV D.ch[n] age i) (hat' : isAt D.ch[n] i age = false) : cont D n age = none := by
  refine Option.eq_none_iff_forall_ne_some.2 fun w hw' => ?_
  obtain ⟨_, q, hq, e, _⟩ := (cont_iff pl).1 hw'
  obtain ⟨j, hj, rfl⟩ := List.mem_iff_getElem.1 hq
  have hj1 : ¬ j < i := fun x => by have := hP.lo j hj x; omega
  by_cases hji : j = i
  · subst hji
    simp only [isAt, List.getElem?_eq_getElem hj, decide_eq_false_iff_not] at hat'
    exact hat' e
  · have h1 := List.pairwise_iff_getElem.1 (pl.rise n ha') i j (by omega) hj (by omega)
    have h2 := hP.hi i (by omega) (by omega)
    omega
theorem cont_at {D : SD} {W R : Nat} (pl : PK D W R) {n : Nat} (ha' : n < D.ch.length) {age : Int} {i : Nat} (hat : isAt D.ch[n] i age = true) : ∃ hi : i < D.ch[n].length, D.ch[n][i].1 = age ∧ cont D n age = some (D.vals.getD D.ch[n][i].2.toNat 0) := by
  have hi : i < D.ch[n].length := by
    refine Nat.lt_of_not_le fun hge => ?_
    simp [isAt, List.getElem?_eq_none hge] at hat
  have hq : D.ch[n][i].1 = age := by simpa [isAt, List.getElem?_eq_getElem hi] using hat
  exact ⟨hi, hq, (cont_iff pl).2 ⟨ha', _, List.getElem_mem hi, hq, rfl⟩⟩
/-- What Put answers. -/
def putE (f : Nat → Int → Option Int) (W n : Nat) (a age : Int) : Int := if ¬ (0 ≤ a ∧ a < W) then 131 else if age < 0 then 210 else if (f a.toNat age).isNone = true ∧ n = 0 then 200 else 0
theorem put_TT {H : Heap} (hw : H.WF) {p W R : Nat} {D : SD} (h : ST H p D) (pl : PL D W R) (a age v : Int) :
    ∃ H' D', T Try.prog 8 [ptr p, iv a, iv age, iv v] H (iv (putE (cont D) W D.fr.length a age)) H' ∧ ST H' p D' ∧ PL D' W R ∧ Fm H H' p D D' ∧
      D.fr.length = D'.fr.length + (if putE (cont D) W D.fr.length a age = 0 ∧ (cont D a.toNat age).isNone = true then 1 else 0) ∧
      ∀ b g, cont D' b g = if putE (cont D) W D.fr.length a age = 0 ∧ b = a.toNat ∧ g = age then some v else cont D b g := by
  by_cases hin : inV D a = true
  · have hin' := hin
    simp only [inV, Bool.and_eq_true, decide_eq_true_eq, pl.hW] at hin'
    by_cases h0 : 0 ≤ age
    · obtain ⟨n, rfl⟩ : ∃ n : Nat, a = n := ⟨a.toNat, by omega⟩
      have ha : n < D.xs.length := by rw [pl.hW]; omega
      have ha' : n < D.ch.length := by rw [pl.hch]; omega
      have hR := pl.R1
      have hll := pl.long n ha'
      obtain ⟨i, hP, pT⟩ := place_T hw h ha ha' (pl.rise n ha') (by omega) age
      have p1 : putE (cont D) W D.fr.length n age = if (cont D n age).isNone = true ∧ D.fr.length = 0 then 200 else 0 := by
        unfold putE
        rw [if_neg (by simpa using hin'), if_neg (by omega)]
        simp
      by_cases hat : isAt D.ch[n] i age = true
      · obtain ⟨hi, hq, hc0⟩ := cont_at pl.toPK ha' hat
        rw [hat] at pT
        have hv := h.putv hw (D.vals.set D.ch[n][i].2.toNat v) (by simp)
        have p0 : putE (cont D) W D.fr.length n age = 0 := by rw [p1, hc0]; simp
        rw [p0]
        refine ⟨_, _, put_there hw h pl.toPK ha ha' h0 hP hi hq pT, hv.1, pl.of_same (pl.toPK.val _ _) (fun b g => by
          rw [cont_val pl.toPK ha' hi, hq]
          split
          · rename_i hx; rw [hx.1, hx.2, hc0]; rfl
          · rfl) rfl, hv.2, by simp [hc0], fun b g => ?_⟩
        rw [cont_val pl.toPK ha' hi, hq]
        simp
      · have hat' : isAt D.ch[n] i age = false := by simpa using hat
        have hc0 := cont_not pl.toPK ha' hP hat'
        rw [hat'] at pT
        by_cases hf : D.fr = []
        · have p0 : putE (cont D) W D.fr.length n age = 200 := by rw [p1, hc0, hf]; simp
          rw [p0]
          exact ⟨H, D, put_full h ha h0 hf pT, h, pl, Fm.refl hw p D, by simp, fun b g => by simp⟩
        · obtain ⟨fr', s, hfr⟩ : ∃ fr' s, D.fr = fr' ++ [s] := ⟨D.fr.dropLast, D.fr.getLast hf, (List.dropLast_concat_getLast _).symm⟩
          have p0 : putE (cont D) W D.fr.length n age = 0 := by rw [p1, hfr]; simp
          rw [p0]
          obtain ⟨H', x', tT, st, fm⟩ := put_new hw h pl.toPK ha ha' h0 hP.le pT hfr (v := v) (pl.bound age)
          have hcd : ∀ b g, cont { D with fr := fr', us := D.us.set s.toNat true, vals := D.vals.set s.toNat v, xs := D.xs.set n x', ch := D.ch.set n (ins D.ch[n] i (age, s)), mc := upd D.mc age (D.mc age + 1) } b g = if b = n ∧ g = age then some v else cont D b g := fun b g => cont_new pl.toPK ha' hP hat' hfr x' b g
          refine ⟨H', _, tT, st, pl.of_put ((pl.toPK.new ha' hP hat' hfr x').mc _) (by omega) hcd hc0 rfl, fm, by rw [hfr]; simp [hc0], fun b g => ?_⟩
          rw [hcd]
          simp
    · have p0 : putE (cont D) W D.fr.length a age = 210 := by
        unfold putE
        rw [if_neg (by simpa using hin'), if_pos (by omega)]
      rw [p0]
      exact ⟨H, D, put_age h hin (by omega), h, pl, Fm.refl hw p D, by simp, fun b g => by simp⟩
  · have hin' : inV D a = false := by simpa using hin
    have hn : ¬ (0 ≤ a ∧ a < W) := by
      intro x
      apply hin
      simp only [inV, Bool.and_eq_true, decide_eq_true_eq, pl.hW]
      exact x
    have p0 : putE (cont D) W D.fr.length a age = 131 := by
      unfold putE
      rw [if_pos hn]
    rw [p0]
    exact ⟨H, D, put_out h hin', h, pl, Fm.refl hw p D, by simp, fun b g => by simp⟩
end Go.Proofs.Ythclcdboialfnaa
namespace Go.Proofs.Ythclcdboialfnaa
open Go.Ot Go.RowKit
set_option linter.unusedSimpArgs false
set_option linter.unusedVariables false
def olderW : Option (Int × Int) → Value
  | none => .tuple #[.agg #[iv 0, iv 0], .bool false]
  | some (q, v) => .tuple #[.agg #[iv q, iv v], .bool true]
theorem older_TT {H : Heap} (hw : H.WF) {p W R : Nat} {D : SD} (h : ST H p D) (pl : PL D W R) {a : Nat} (ha : a < W) (age : Int) :
    ∃ r, T Try.prog 11 [ptr p, iv a, iv age] H (olderW r) H ∧ (∀ q v, r = some (q, v) → q < age ∧ cont D a q = some v ∧ ∀ g, g < age → (cont D a g).isSome = true → g ≤ q) ∧ (r = none → ∀ g, g < age → cont D a g = none) := by
  have hx : a < D.xs.length := by rw [pl.hW]; omega
  have hc : a < D.ch.length := by rw [pl.hch]; omega
  obtain ⟨i, hP, hT⟩ := older_T hw h pl.toPK hx hc age
  have low : ∀ g, g < age → (cont D a g).isSome = true → ∃ j, ∃ hj : j < D.ch[a].length, j < i ∧ D.ch[a][j].1 = g := by
    intro g hg hs
    obtain ⟨v, hv⟩ := Option.isSome_iff_exists.1 hs
    obtain ⟨_, q, hq, e, _⟩ := (cont_iff pl.toPK).1 hv
    obtain ⟨j, hj, rfl⟩ := List.mem_iff_getElem.1 hq
    refine ⟨j, hj, ?_, e⟩
    refine Nat.lt_of_not_le fun hle => ?_
    have := hP.hi j hj hle
    omega
  by_cases hi0 : i = 0
  · refine ⟨none, ?_, fun q v e => by (cases e), fun _ g hg => ?_⟩
    · have : olderV D D.ch[a] i = olderW none := by unfold olderV; rw [if_pos hi0]; rfl
      rw [← this]; exact hT
    · by_cases hs : (cont D a g).isSome = true
      · obtain ⟨j, _, hj, _⟩ := low g hg hs
        omega
      · simpa using hs
  · have hle := hP.le
    have hj : i - 1 < D.ch[a].length := by omega
    have hgd : D.ch[a].getD (i - 1) (0, 0) = D.ch[a][i - 1] := by simp [List.getD, hj]
    refine ⟨some (D.ch[a][i - 1].1, D.vals.getD D.ch[a][i - 1].2.toNat 0), ?_, fun q v e => ?_, fun e => by (cases e)⟩
    · have : olderV D D.ch[a] i = olderW (some (D.ch[a][i - 1].1, D.vals.getD D.ch[a][i - 1].2.toNat 0)) := by unfold olderV; rw [if_neg hi0, hgd]; rfl
      rw [← this]; exact hT
    · simp only [Option.some.injEq, Prod.mk.injEq] at e
      obtain ⟨rfl, rfl⟩ := e
      refine ⟨hP.lo _ hj (by omega), (cont_iff pl.toPK).2 ⟨hc, _, List.getElem_mem hj, rfl, rfl⟩, fun g hg hs => ?_⟩
      obtain ⟨j, hj2, hji, rfl⟩ := low g hg hs
      by_cases e : j = i - 1
      · subst e; omega
      · have := List.pairwise_iff_getElem.1 (pl.rise a hc) j (i - 1) hj2 hj (by omega)
        omega
end Go.Proofs.Ythclcdboialfnaa
namespace Go.Proofs.Ythclcdboialfnaa
open Go.Ot Go.RowKit
set_option linter.unusedSimpArgs false
set_option linter.unusedVariables false
theorem Fm.old {H H1 : Heap} {p : Nat} {D D' : SD} (f : Fm H H1 p D D') {n : Nat} (hn : n ≤ H.next) (hm : ∀ b, Mine p D b → n ≤ b) : (∀ b, b < n → H1.blk b = H.blk b) ∧ ∀ b, Mine p D' b → n ≤ b :=
  ⟨fun b hb => f.keep b (by omega) (fun h => by have := hm b h; omega), fun b hb => by
    rcases f.new b hb with h | h
    · exact hm b h
    · omega⟩
theorem stepG (w : World) {xs ys : Array Value} {f : Field} {fs : List Field} {n m : Int} (hn : f.name ≠ "_") (hk : Try.prog.plainKey f.type = true) (hu : Try.prog.underlying f.type = some (.int .i64)) (hx : xs[f.offset]? = some (iv n)) (hy : ys[f.offset]? = some (iv m)) :
    (Op.eqFields 9999 xs ys (f :: fs)).run Try.prog w = if n = m then (Op.eqFields 9999 xs ys fs).run Try.prog w else .ok false w := by
  simp only [Op.eqFields]
  rw [if_pos hn]
  simp only [Sem.run_bind, run_part_plain w hk hx, run_part_plain w hk hy, Result.andThen_ok, run_equalIn_int w 9998 f.type .i64 .i64 _ _ hu]
  by_cases h : n = m
  · simp [h]
  · simp [h]
set_option maxRecDepth 100000 in
theorem eqV (n m : Int) (w : World) : (Op.equal 33 (.agg #[iv n, iv m]) (.agg #[iv n, iv m])).run Try.prog w = .ok true w := by
  have hd : Op.equal 33 (.agg #[iv n, iv m]) (.agg #[iv n, iv m]) = Op.equalIn (9999 + 1) 33 (.agg #[iv n, iv m]) (.agg #[iv n, iv m]) := rfl
  have hf : ∃ f1 f2 : Field, Try.prog.fieldsOf 33 = #[f1, f2] ∧ f1.name ≠ "_" ∧ f2.name ≠ "_" ∧ f1.offset = 0 ∧ f2.offset = 1 ∧ Try.prog.underlying f1.type = some (.int .i64) ∧ Try.prog.underlying f2.type = some (.int .i64) ∧ Try.prog.plainKey f1.type = true ∧ Try.prog.plainKey f2.type = true ∧ Try.prog.underlying 33 = some (.struct #[f1, f2]) := by
    unfold Program.fieldsOf
    rw [Try.underlying33]
    exact ⟨_, _, rfl, by decide, by decide, rfl, rfl, Try.underlying3, Try.underlying2, by kernel_rfl, by kernel_rfl, rfl⟩
  obtain ⟨f1, f2, hf, n1, n2, o1, o2, u1, u2, k1, k2, hu⟩ := hf
  rw [hd, run_equalIn_struct w 9999 33 _ _ (by rw [hf]; exact hu) (by kernel_rfl), hf]
  show (Op.eqFields 9999 #[iv n, iv m] #[iv n, iv m] [f1, f2]).run Try.prog w = _
  rw [stepG (n := n) (m := n) w n1 k1 u1 (by rw [o1]; rfl) (by rw [o1]; rfl), if_pos rfl, stepG (n := m) (m := m) w n2 k2 u2 (by rw [o2]; rfl) (by rw [o2]; rfl), if_pos rfl]
  rfl
theorem example_T {H : Heap} (hw : H.WF) : T Try.prog 12 [] H (.bool true) H := by
  refine TN.one rfl (Nat.le_refl _) id ?_
  refine TN.mono (TN.forget (Q := fun o H' => o = .ret (.bool true) ∧ ∀ b, b < H.next → H'.blk b = H.blk b) (Q' := fun o => o = .ret (.bool true)) ?_ ?_) (fun o H' h _ _ _ => ⟨h.2, h.1⟩)
  · refine N_by hm light12 ?_
    simp [L12]
    refine goN_of (new_N hw (W := 2) (R := 3) (by omega) (by omega)) ?_
    rintro o H1 ⟨v, rfl, p, D, rfl, st, pl, fl, hc, hmn, hk⟩ hw1 _ hn1
    obtain ⟨H2, D2, t2, st2, pl2, fm2, f2, c2⟩ := put_TT hw1 st pl 0 5 50
    have p2 : putE (cont D) 2 D.fr.length 0 5 = 0 := by rw [fl]; simp [putE, hc]
    rw [p2] at t2 f2 c2
    simp [hc] at f2 c2
    obtain ⟨H3, D3, t3, st3, pl3, fm3, f3, c3⟩ := put_TT fm2.wf st2 pl2 0 2 20
    have g2 : D2.fr.length = 2 := by omega
    have p3 : putE (cont D2) 2 D2.fr.length 0 2 = 0 := by rw [g2]; simp [putE]
    rw [p3] at t3 f3 c3
    simp [c2] at f3 c3
    obtain ⟨H4, D4, t4, st4, pl4, fm4, f4, c4⟩ := put_TT fm3.wf st3 pl3 1 5 7
    have g3 : D3.fr.length = 1 := by omega
    have p4 : putE (cont D3) 2 D3.fr.length 1 5 = 0 := by rw [g3]; simp [putE]
    rw [p4] at t4 f4 c4
    simp [c3] at f4 c4
    obtain ⟨H5, D5, t5, st5, pl5, fm5, f5, c5⟩ := put_TT fm4.wf st4 pl4 1 6 8
    have g4 : D4.fr.length = 0 := by omega
    have p5 : putE (cont D4) 2 D4.fr.length 1 6 = 200 := by rw [g4]; simp [putE, c4]
    rw [p5] at t5 f5 c5
    simp at f5 c5
    simp
    refine goN_T t2 ?_
    simp
    refine goN_T t3 ?_
    simp
    refine goN_T t4 ?_
    simp
    refine goN_T t5 ?_
    simp
    obtain ⟨r, oT, hr1, hr2⟩ := older_TT fm5.wf st5 pl5 (a := 0) (by omega) 5
    have cr : r = some (2, 20) := by
      cases r with
      | none => have := hr2 rfl 2 (by omega); simp [c5, c4, c3] at this
      | some qv =>
        obtain ⟨q, v⟩ := qv
        obtain ⟨h1, h2, h3⟩ := hr1 q v rfl
        have h4 := h3 2 (by omega) (by simp [c5, c4, c3])
        by_cases hq : q = 2
        · subst hq
          simp [c5, c4, c3] at h2
          rw [h2]
        · have hq5 : q ≠ 5 := by omega
          simp [c5, c4, c3, c2, hc, hq, hq5] at h2
    rw [cr] at oT
    change T _ _ _ _ (.tuple #[.agg #[iv 2, iv 20], .bool true]) _ at oT
    refine goN_T oT ?_
    have hw5 := fm5.wf
    obtain ⟨HA, hHA⟩ : ∃ HA, HA = H5.new 33 2 [iv 0, iv 0] := ⟨_, rfl⟩
    have onA : On H5 HA := by rw [hHA]; exact (On.refl hw5).new _ _ _
    have vA : Vr HA H5.next 33 2 [iv 0, iv 0] := by rw [hHA]; exact Vr.mk' hw5 _ _ _
    have sf := vA.storeA (m := 2) (by decide) [iv 2, iv 20] rfl rfl
    have ld := (vA.put [iv 2, iv 20]).loadA (m := 2) rfl
    have onC : On H5 (HA.put H5.next [iv 2, iv 20]) := onA.put (Nat.le_refl _) _
    obtain ⟨HC, hHC⟩ : ∃ HC, HC = HA.put H5.next [iv 2, iv 20] := ⟨_, rfl⟩
    rw [← hHC] at sf ld onC
    have stC := st5.on hw5 onC
    obtain ⟨v6, H6, dT, rfl, D6, st6, pl6, fm6, f6, c6⟩ := dropall_T onC.wf stC pl5 5
    have m6 : manyF (cont D5) 5 2 = 2 := by
      rw [show (2 : Nat) = 1 + 1 from rfl, manyF_succ, manyF_succ]
      simp [manyF, c5, c4, c3, c2]
    rw [m6] at dT f6
    have lT := slive_T stC pl5
    have frT := sfree_T st6
    simp [← hHA, sf, ld]
    refine goE_of (b := true) (by rfl) (by rfl) (eqV 2 20) ?_
    simp
    have g5 : D5.fr.length = 0 := by omega
    have g6 : D6.fr.length = 2 := by omega
    rw [g6] at frT
    rw [g5] at lT
    refine goN_T lT ?_
    simp
    refine goN_T dT ?_
    simp
    refine goN_T frT ?_
    simp [EndN, packV]
    have o1 := fm2.old hn1 hmn
    have n2 := fm2.next
    have o2 := fm3.old (by omega) o1.2
    have n3 := fm3.next
    have o3 := fm4.old (by omega) o2.2
    have n4 := fm4.next
    have o4 := fm5.old (by omega) o3.2
    have n5 := fm5.next
    have nC := onC.next
    have o5 := fm6.old (n := H.next) (by omega) o4.2
    intro b hb
    rw [o5.1 b hb, onC.keep b (by omega), o4.1 b hb, o3.1 b hb, o2.1 b hb, o1.1 b hb, hk b hb]
  · rintro o H' ⟨rfl, h⟩
    exact ⟨rfl, h, rfl⟩
end Go.Proofs.Ythclcdboialfnaa
namespace Go.Proofs.Ythclcdboialfnaa
open Go.Ot Go.RowKit
set_option linter.unusedSimpArgs false
set_option linter.unusedVariables false
theorem kind_T {H : Heap} (n : Int) : ∃ v, T Try.prog 7 [iv n] H v H ∧ ∃ k, v = iv k ∧ k = n % 7 := by
  have h1 := Int.tmod_lt_of_pos n (show (0 : Int) < 7 by omega)
  have h2 := Int.tmod_lt_of_pos (-n) (show (0 : Int) < 7 by omega)
  rw [Int.neg_tmod] at h2
  have w2 : IntKind.i64.wrap (n.tmod 7 + 7) = n.tmod 7 + 7 := w64 _ (by omega)
  have e1 : (n.tmod 7 + 7).tmod 7 = n % 7 := by
    have := Int.mul_tdiv_add_tmod n 7
    rw [Int.tmod_eq_emod_of_nonneg (by omega)]
    omega
  refine ⟨iv (n % 7), T_eq hm light7 ?_, _, rfl, rfl⟩
  simp [L7, sBin_rem, w2, e1]
end Go.Proofs.Ythclcdboialfnaa
namespace Go.Proofs.Ythclcdboialfnaa
open Go.Ot Go.ChangeShapes Go.WideShapes Go.ChangeAt Go.RowKit
set_option linter.unusedSimpArgs false
set_option linter.unusedVariables false
/-- A call. -/
structure Cl where
  k : Int
  w : Int
  g : Int
  v : Int
deriving DecidableEq, Inhabited
def orow (o : Cl) : List Value := [iv o.k, iv o.w, iv o.g, iv o.v]
abbrev Rc (H : Heap) (x : Value) (l : List Cl) : Prop := Rws H 4 x (l.map orow)
theorem Rc.len {H : Heap} {x : Value} {l : List Cl} (h : Rc H x l) : ∃ a c, x = .slice a l.length c := by
  obtain ⟨a, c, e⟩ := Rws.len h
  exact ⟨a, c, by simpa using e⟩
theorem Rc.on {H H1 : Heap} (hw : H.WF) {x : Value} {l : List Cl} (h : Rc H x l) (o : On H H1) : Rc H1 x l := Rws.keep hw o.base o.keep h
theorem Rc.get {H : Heap} {x : Value} {l : List Cl} (h : Rc H x l) {i : Nat} (hi : i < l.length) :
    ∃ b off c, x = .slice (some ⟨b, off, none⟩) l.length c ∧ H.loadN ⟨b, off + i * 4, none⟩ 0 4 = some (orow l[i]) := by
  obtain ⟨b, off, c, hx, h1, h2, h3⟩ := Rws.at h (i := i) (by simpa using hi)
  simp only [List.getElem_map] at h2 h3
  exact ⟨b, off, c, by simpa using hx, h2⟩
theorem On.fm {H H1 H2 : Heap} {p : Nat} {D D' : SD} (o : On H H1) (f : Fm H1 H2 p D D') (hm : ∀ b, Mine p D b → H.next ≤ b) : On H H2 ∧ ∀ b, Mine p D' b → H.next ≤ b := by
  obtain ⟨h1, h2⟩ := f.old (n := H.next) o.next hm
  exact ⟨⟨f.wf, f.base.trans o.base, Nat.le_trans o.next f.next, fun b hb => by rw [h1 b hb, o.keep b hb]⟩, h2⟩
theorem T_of_N {f : FuncId} {args : List Value} {H : Heap} (h : TN Try.prog f args H (fun o H' => o = .ret (.bool true) ∧ On H H')) : T Try.prog f args H (.bool true) H := by
  refine TN.one rfl (Nat.le_refl _) id ?_
  refine TN.mono (TN.forget (Q' := fun o => o = .ret (.bool true)) h ?_) (fun o H' h _ _ _ => ⟨h.2, h.1⟩)
  rintro o H' ⟨rfl, on⟩
  exact ⟨rfl, on.keep, rfl⟩
set_option maxRecDepth 100000 in
theorem rd_call {H : Heap} (ds : List Value) (h : Rd Try.prog H 3 28 ds) : ∃ a : Cl, ds = orow a := by
  have hl : ds.length = 4 := (Go.Ot.rd_len Try.underlying28 h).trans (by kernel_rfl)
  have c3 : Try.prog.cellsOf 3 = 1 := by kernel_rfl
  have c2 : Try.prog.cellsOf 2 = 1 := by kernel_rfl
  match ds, hl with
  | [w0, w1, w2, w3], _ =>
    have g0 := rd_field Try.underlying28 h 0 rfl c3
    have g1 := rd_field Try.underlying28 h 1 rfl c3
    have g2 := rd_field Try.underlying28 h 2 rfl c3
    have g3 := rd_field Try.underlying28 h 3 rfl c2
    obtain ⟨a0, q0, _⟩ := rd_int Try.underlying3 g0
    obtain ⟨a1, q1, _⟩ := rd_int Try.underlying3 g1
    obtain ⟨a2, q2, _⟩ := rd_int Try.underlying3 g2
    obtain ⟨a3, q3, _⟩ := rd_int Try.underlying2 g3
    simp at q0 q1 q2 q3
    subst q0 q1 q2 q3
    exact ⟨⟨a0, a1, a2, a3⟩, rfl⟩
set_option maxRecDepth 100000 in
theorem rd_calls {H : Heap} {x : Value} (h : Rd Try.prog H 4 22 [x]) : ∃ l : List Cl, Rc H x l := by
  rcases rd_slice Try.underlying22 h (show Try.prog.cellsOf 28 = 4 by kernel_rfl) with rfl | ⟨b, off, k, c, rfl, _, h⟩
  · exact ⟨[], .inl ⟨rfl, rfl⟩⟩
  · obtain ⟨l, hl, h⟩ := rd_all (Q := fun (a : Cl) ds => ds = orow a) (fun ds h => rd_call ds h) h
    refine ⟨l, .inr ⟨b, off, c, by rw [List.length_map, hl], fun i hi => ?_⟩⟩
    have hi' : i < l.length := by simpa using hi
    obtain ⟨_, ds, _, h3, h4⟩ := h i hi'
    subst h4
    simp only [List.getElem_map]
    exact ⟨rfl, fun j hj => h3 j hj⟩
end Go.Proofs.Ythclcdboialfnaa
