/-
  Chapter 25: the program's reader: items, brackets.
-/
import Derived.Test.YtmdlfenileiaeaaSeatC
namespace Go.Proofs.Ytmdlfenileiaeaa
open Go.Ot Go.RowKit
set_option linter.unusedSimpArgs false
set_option linter.unusedVariables false
/-- What stands within brackets that open here. -/
def brP (S : List Nat) (sub : Option (Nat → Res)) (a : Nat) : Res := match sub with
  | none => .err 250 a
  | some f => match f (a + 1) with
    | .err e b => .err e b
    | .ok one b => if S.getD (run isB S b) 0 = 41 then .ok one (run isB S b + 1) else .err 250 (run isB S b)
def numP (S : List Nat) (a : Nat) (ab : Bool) : Res := match numAt S a with
  | some v => .ok [((v : Int), ab)] (run isD S a)
  | none => .err 250 a
/-- The item that begins here. -/
def itemP (S : List Nat) (sub : Option (Nat → Res)) (a : Nat) : Option Res :=
  if S.getD a 0 = 40 then some (brP S sub a) else if S.getD a 0 = 33 then some (numP S (a + 1) true) else if isD (S.getD a 0) = true then some (numP S a false) else none
def loopI (S : List Nat) (sub : Option (Nat → Res)) : Nat → Nat → List Ent → Res
  | 0, a, l => .ok l a
  | f + 1, a, l => match itemP S sub (run isB S a) with
    | none => .ok l (run isB S a)
    | some (.err e b) => .err e b
    | some (.ok one b) => match repP S b l one with
      | .err e b => .err e b
      | .ok l' b => loopI S sub f b l'
def items (S : List Nat) : Nat → Nat → Res
  | 0, a => loopI S none (S.length + 1) a []
  | k + 1, a => loopI S (some (items S k)) (S.length + 1) a []
/-! ### how far, how many -/
def ResOk (S : List Nat) (a : Nat) : Res → Prop
  | .ok l b => l.length ≤ 40000 ∧ a ≤ b ∧ b ≤ S.length
  | .err _ _ => True
theorem getD_pos {S : List Nat} {a c : Nat} (h : S.getD a 0 = c) (hc : c ≠ 0) : a < S.length := by
  by_cases ha : a < S.length
  · exact ha
  · rw [List.getD_eq_getElem?_getD, List.getElem?_eq_none (by omega)] at h
    exact absurd h.symm hc
theorem numAt_run {S : List Nat} {a v : Nat} (h : numAt S a = some v) : a < run isD S a := by
  unfold numAt at h
  split at h
  · rename_i hh
    have : dsAt S a ≠ [] := by
      intro e
      have := hh.1
      rw [e] at this
      exact absurd this (by decide)
    have := List.length_pos_iff.2 this
    unfold run
    unfold dsAt at this
    omega
  · cases h
theorem numP_ok {S : List Nat} {a : Nat} {ab : Bool} (ha : a ≤ S.length) {one : List Ent} {b : Nat} (h : numP S a ab = .ok one b) : one.length = 1 ∧ a < b ∧ b ≤ S.length := by
  unfold numP at h
  cases hn : numAt S a with
  | none => rw [hn] at h; cases h
  | some v =>
    rw [hn] at h
    simp only [Res.ok.injEq] at h
    obtain ⟨rfl, rfl⟩ := h
    exact ⟨rfl, numAt_run hn, run_le ha⟩
theorem brP_ok {S : List Nat} {sub : Option (Nat → Res)} (hs : ∀ f, sub = some f → ∀ a, a ≤ S.length → ResOk S a (f a)) {a : Nat} (ha : a < S.length) {one : List Ent} {b : Nat} (h : brP S sub a = .ok one b) : one.length ≤ 40000 ∧ a < b ∧ b ≤ S.length := by
  unfold brP at h
  cases sub with
  | none => cases h
  | some f =>
    have hf := hs f rfl (a + 1) (by omega)
    simp only at h
    cases hfa : f (a + 1) with
    | err e b => rw [hfa] at h; cases h
    | ok l b2 =>
      rw [hfa] at h hf
      simp only at h
      obtain ⟨h1, h2, h3⟩ := hf
      split at h
      · rename_i hc
        cases h
        have := getD_pos hc (by decide)
        have := run_ge isB S b2
        exact ⟨h1, by omega, by omega⟩
      · cases h
theorem itemP_ok {S : List Nat} {sub : Option (Nat → Res)} (hs : ∀ f, sub = some f → ∀ a, a ≤ S.length → ResOk S a (f a)) {a : Nat} {one : List Ent} {b : Nat} (h : itemP S sub a = some (.ok one b)) : one.length ≤ 40000 ∧ a < b ∧ b ≤ S.length := by
  unfold itemP at h
  split at h
  · rename_i hc
    exact brP_ok hs (getD_pos hc (by decide)) (Option.some.inj h)
  · split at h
    · rename_i hc
      have := getD_pos hc (by decide)
      have := numP_ok (by omega) (Option.some.inj h)
      omega
    · split at h
      · rename_i hc
        have ha : a < S.length := by
          by_cases ha : a < S.length
          · exact ha
          · rw [List.getD_eq_getElem?_getD, List.getElem?_eq_none (by omega)] at hc
            exact absurd hc (by decide)
        have := numP_ok (by omega) (Option.some.inj h)
        omega
      · cases h
theorem repP_ok {S : List Nat} {a : Nat} {l one : List Ent} (ha : a ≤ S.length) {l' : List Ent} {b : Nat} (h : repP S a l one = .ok l' b) : l'.length ≤ 40000 ∧ a ≤ b ∧ b ≤ S.length := by
  have go : ∀ many a2, a ≤ a2 → a2 ≤ S.length → repGo a l one many a2 = .ok l' b → l'.length ≤ 40000 ∧ a ≤ b ∧ b ≤ S.length := by
    intro many a2 h1 h2 h3
    unfold repGo at h3
    split at h3
    · cases h3
    · rename_i hn
      cases h3
      refine ⟨?_, h1, h2⟩
      rw [List.length_append, List.length_flatten, List.map_replicate, List.sum_replicate_nat]
      omega
  unfold repP at h
  split at h
  · rename_i hc
    cases hn : numAt S (a + 1) with
    | none => rw [hn] at h; cases h
    | some v =>
      rw [hn] at h
      have := run_ge isD S (a + 1)
      exact go v _ (by omega) (run_le (by omega)) h
  · exact go 1 a (Nat.le_refl _) ha h
theorem loopI_ok {S : List Nat} {sub : Option (Nat → Res)} (hs : ∀ f, sub = some f → ∀ a, a ≤ S.length → ResOk S a (f a)) : ∀ (f a : Nat) (l : List Ent), a ≤ S.length → l.length ≤ 40000 → ResOk S a (loopI S sub f a l)
  | 0, a, l, ha, hl => ⟨hl, Nat.le_refl _, ha⟩
  | f + 1, a, l, ha, hl => by
    unfold loopI
    have h1 := run_ge isB S a
    have h2 : run isB S a ≤ S.length := run_le ha
    cases hi : itemP S sub (run isB S a) with
    | none => exact ⟨hl, h1, h2⟩
    | some R =>
      cases R with
      | err e b => trivial
      | ok one b =>
        obtain ⟨q1, q2, q3⟩ := itemP_ok hs hi
        cases hr : repP S b l one with
        | err e b => simp only [hr]; trivial
        | ok l' b' =>
          obtain ⟨q4, q5, q6⟩ := repP_ok q3 hr
          simp only [hr]
          have := loopI_ok hs f b' l' q6 q4
          revert this
          cases loopI S sub f b' l' with
          | err => exact fun _ => trivial
          | ok l b => rintro ⟨r1, r2, r3⟩; exact ⟨r1, by omega, r3⟩
theorem items_ok (S : List Nat) : ∀ (k a : Nat), a ≤ S.length → ResOk S a (items S k a)
  | 0, a, ha => loopI_ok (fun f h => by cases h) _ _ _ ha (by simp)
  | k + 1, a, ha => loopI_ok (fun f h => by cases h; exact items_ok S k) _ _ _ ha (by simp)
/-! ### the walk -/
def ItemsQ (s : ByteArray) (H : Heap) (p o : Nat) (R : Res) (r : Out) (H' : Heap) : Prop :=
  Fr H H' p ∧ match R with
  | .ok l a => ∃ x, r = .ret x ∧ Own H' 36 2 l.length (ec l) x ∧ Vr H' p 67 3 (rdr s a o) ∧ ∀ b, blkOf x = some b → H.next ≤ b
  | .err e a => r = .pan (stopV e a)
/-- What may stand within. -/
def SubOk (s : ByteArray) (p o : Nat) (sub : Option (Nat → Res)) : Prop := match sub with
  | none => o = 8
  | some f => o < 8 ∧ (∀ a, a ≤ (bts s).length → ResOk (bts s) a (f a)) ∧ ∀ (H : Heap) (a : Nat), H.WF → Vr H p 67 3 (rdr s a (o + 1)) → a ≤ (bts s).length → TN Try.prog 23 [ptr p] H (ItemsQ s H p (o + 1) (f a))
theorem rdr_set1 (s : ByteArray) (a o b : Nat) : (rdr s a o).set 1 (iv b) = rdr s b o := rfl
theorem rdr_set2 (s : ByteArray) (a o b : Nat) : (rdr s a o).set 2 (iv b) = rdr s a b := rfl
theorem bracket_N {s : ByteArray} {p o : Nat} {sub : Option (Nat → Res)} (hsub : SubOk s p o sub) (ho : o ≤ 8) (hl : (bts s).length ≤ 100000) {H : Heap} (hw : H.WF) {a : Nat} (V : Vr H p 67 3 (rdr s a o)) (ha : a < (bts s).length) : TN Try.prog 40 [ptr p] H (ItemsQ s H p o (brP (bts s) sub a)) := by
  refine N_by hm light40 ?_
  have l2 : H.load ⟨p, 2, none⟩ = some (iv o) := V.load 2
  have w1 : IntKind.i64.wrap ((o : Int) + 1) = ((o + 1 : Nat) : Int) := by rw [w64 _ (by omega)]; omega
  obtain ⟨o1, ho1⟩ : ∃ n, n = o + 1 := ⟨_, rfl⟩
  have st1 : H.store ⟨p, 2, none⟩ (iv o1) = some (H.put p (rdr s a o1)) := by rw [V.store 2 _ (by simp [rdr])]; rfl
  rw [← ho1] at w1
  have V1 : Vr (H.put p (rdr s a o1)) p 67 3 (rdr s a o1) := V.put _
  have fr1 : Fr H (H.put p (rdr s a o1)) p := (Fr.refl hw p).put _
  obtain ⟨H1, hH1⟩ : ∃ H1, H1 = H.put p (rdr s a o1) := ⟨_, rfl⟩
  rw [← hH1] at st1 V1 fr1
  have l3 : H1.load ⟨p, 2, none⟩ = some (iv o1) := V1.load 2
  have l4 : H1.load ⟨p, 1, none⟩ = some (iv a) := V1.load 1
  obtain ⟨RR, hRR⟩ : ∃ R, R = brP (bts s) sub a := ⟨_, rfl⟩
  rw [← hRR]
  cases sub with
  | none =>
    have ho8 : o = 8 := hsub
    have c1 : (8 : Int) < (o1 : Int) := by omega
    have c1' : 8 < o1 := by omega
    have gN := give_N V1 250
    simp [L40, l2, w1, st1, l3, c1, c1']
    refine goN_of gN ?_
    rintro r H' ⟨rfl, rfl⟩ _ _ _
    simp
    rw [hRR]
    exact ⟨fr1, rfl⟩
  | some f =>
    obtain ⟨ho8, hfo, hf⟩ := hsub
    have c1 : ¬ (8 : Int) < (o1 : Int) := by omega
    have c1' : ¬ 8 < o1 := by omega
    have w2 : IntKind.i64.wrap ((a : Int) + 1) = ((a + 1 : Nat) : Int) := by rw [w64 _ (by omega)]; omega
    obtain ⟨a1, ha1⟩ : ∃ n, n = a + 1 := ⟨_, rfl⟩
    rw [← ha1] at w2
    have st2 : H1.store ⟨p, 1, none⟩ (iv a1) = some (H1.put p (rdr s a1 o1)) := by rw [V1.store 1 _ (by simp [rdr])]; rfl
    have V2 : Vr (H1.put p (rdr s a1 o1)) p 67 3 (rdr s a1 o1) := V1.put _
    have fr2 : Fr H (H1.put p (rdr s a1 o1)) p := fr1.put _
    obtain ⟨H2, hH2⟩ : ∃ H2, H2 = H1.put p (rdr s a1 o1) := ⟨_, rfl⟩
    rw [← hH2] at st2 V2 fr2
    have iN := hf H2 a1 fr2.wf (by rw [ho1] at V2; exact V2) (by omega)
    have hok := hfo a1 (by omega)
    simp [L40, l2, w1, st1, l3, c1, c1', l4, w2, st2]
    refine goN_of iN ?_
    rintro r H3 ⟨fr3, hq⟩ w3 _ _
    unfold brP at hRR
    simp only at hRR
    rw [← ha1] at hRR
    cases hfa : f a1 with
    | err e b =>
      rw [hfa] at hq hRR
      have hq : r = .pan (stopV e b) := hq
      subst hq hRR
      simp
      exact ⟨fr2.trans fr3, rfl⟩
    | ok one b =>
      rw [hfa] at hq hok hRR
      simp only at hRR
      obtain ⟨x, rfl, own3, V3, nx3⟩ := hq
      obtain ⟨q1, q2, q3⟩ := hok
      have nT := now_T V3 (by omega) hl
      have n1 := run_ge isB (bts s) b
      have n2 : run isB (bts s) b ≤ (bts s).length := run_le q3
      obtain ⟨b1, hb1⟩ : ∃ b1, b1 = run isB (bts s) b := ⟨_, rfl⟩
      rw [← hb1] at nT n1 n2 hRR
      obtain ⟨c, hc⟩ : ∃ c, c = (bts s).getD b1 0 := ⟨_, rfl⟩
      rw [← hc] at nT hRR
      rw [← ho1] at V3 nT
      have V4 : Vr (H3.put p (rdr s b1 o1)) p 67 3 (rdr s b1 o1) := V3.put _
      have fr4 : Fr H (H3.put p (rdr s b1 o1)) p := (fr2.trans fr3).put _
      obtain ⟨H4, hH4⟩ : ∃ H4, H4 = H3.put p (rdr s b1 o1) := ⟨_, rfl⟩
      have k4 : Fr H3 H4 p := by rw [hH4]; exact (Fr.refl w3 p).put _
      rw [← hH4] at nT V4 fr4
      obtain ⟨ax, hx⟩ := own3.len
      have hnt : notTup x = true := by rw [hx]; rfl
      have plt : p < H2.next := fr2.wf.lt V2.bq
      have nH2 := fr2.next
      simp [hnt]
      refine goN_T nT ?_
      by_cases h41 : c = 41
      · have hcb : ((c : Int) != 41) = false := by simp [h41]
        have hbl : b1 < (bts s).length := getD_pos (c := 41) (by rw [← hc, h41]) (by decide)
        rw [if_pos h41] at hRR
        have l5 : H4.load ⟨p, 1, none⟩ = some (iv b1) := V4.load 1
        have w3' : IntKind.i64.wrap ((b1 : Int) + 1) = ((b1 + 1 : Nat) : Int) := by rw [w64 _ (by omega)]; omega
        obtain ⟨b2, hb2⟩ : ∃ n, n = b1 + 1 := ⟨_, rfl⟩
        rw [← hb2] at w3' hRR
        have st5 : H4.store ⟨p, 1, none⟩ (iv b2) = some (H4.put p (rdr s b2 o1)) := by rw [V4.store 1 _ (by simp [rdr])]; rfl
        have V5 : Vr (H4.put p (rdr s b2 o1)) p 67 3 (rdr s b2 o1) := V4.put _
        have l6 : (H4.put p (rdr s b2 o1)).load ⟨p, 2, none⟩ = some (iv o1) := V5.load 2
        have w4 : IntKind.i64.wrap ((o1 : Int) - 1) = (o : Int) := by rw [w64 _ (by omega)]; omega
        have st6 : (H4.put p (rdr s b2 o1)).store ⟨p, 2, none⟩ (iv o) = some (H4.put p (rdr s b2 o)) := by rw [V5.store 2 _ (by simp [rdr]), put_put]; rfl
        simp [hcb, l5, w3', st5, l6, w4, st6, hnt]
        rw [hRR]
        refine ⟨fr4.put _, x, rfl, ?_, V4.put _, fun b hb => by have := nx3 b hb; omega⟩
        refine own3.keep (B_eq k4.base) (fun b hb => ?_)
        have hbp : b ≠ p := by have := nx3 b hb; omega
        simp [hbp]
        exact k4.keep b (own3.lt w3 hb) hbp
      · have hcb : ((c : Int) != 41) = true := by simp; omega
        rw [if_neg h41] at hRR
        have gN := give_N V4 250
        simp [hcb]
        refine goN_of gN ?_
        rintro r H' ⟨rfl, rfl⟩ _ _ _
        simp
        rw [hRR]
        exact ⟨fr4, rfl⟩
def InvIt (s : ByteArray) (H : Heap) (p o : Nat) (sub : Option (Nat → Res)) (RR : Res) (k : Nat) (t : Tm) (H1 : Heap) : Prop :=
  ∃ a l x, (bts s).length < a + k ∧ a ≤ (bts s).length ∧ l.length ≤ 40000 ∧ t 0 = ptr p ∧ t 3 = x ∧ RR = loopI (bts s) sub k a l ∧ Fr H H1 p ∧ Own H1 36 2 l.length (ec l) x ∧ Vr H1 p 67 3 (rdr s a o) ∧ ∀ b, blkOf x = some b → H.next ≤ b
theorem loop_N {s : ByteArray} {p o : Nat} {sub : Option (Nat → Res)} (hsub : SubOk s p o sub) (ho : o ≤ 8) (hl : (bts s).length ≤ 100000) {H : Heap} (hw : H.WF) {a : Nat} (V : Vr H p 67 3 (rdr s a o)) (ha : a ≤ (bts s).length) : TN Try.prog 23 [ptr p] H (ItemsQ s H p o (loopI (bts s) sub ((bts s).length + 1) a [])) := by
  have hso : ∀ f, sub = some f → ∀ a, a ≤ (bts s).length → ResOk (bts s) a (f a) := by
    intro f hf; subst hf; exact hsub.2.1
  refine N_by hm light23 ?_
  have plt := hw.lt V.bq
  obtain ⟨RR, hRR⟩ : ∃ R, R = loopI (bts s) sub ((bts s).length + 1) a [] := ⟨_, rfl⟩
  rw [← hRR]
  simp [L23]
  refine loopN_at (InvIt s H p o sub RR) ((bts s).length + 1) ?_ ?_
  · exact ⟨a, [], .slice none 0 0, by omega, ha, by simp, by simp, by simp, hRR, Fr.refl hw p, Own.nil _ _ _, V, fun b hb => (by cases hb)⟩
  · rintro k t H1 ⟨a, l, x, hk, ha, hl1, t0, t3, hRR, fr, own, V, nx⟩
    cases k with
    | zero => omega
    | succ k =>
      unfold loopI at hRR
      have nT := now_T V ha hl
      have n1 := run_ge isB (bts s) a
      have n2 : run isB (bts s) a ≤ (bts s).length := run_le ha
      obtain ⟨a1, ha1⟩ : ∃ a1, a1 = run isB (bts s) a := ⟨_, rfl⟩
      rw [← ha1] at nT n1 n2 hRR
      obtain ⟨c, hc⟩ : ∃ c, c = (bts s).getD a1 0 := ⟨_, rfl⟩
      rw [← hc] at nT
      have V2 : Vr (H1.put p (rdr s a1 o)) p 67 3 (rdr s a1 o) := V.put _
      have fr2 : Fr H (H1.put p (rdr s a1 o)) p := fr.put _
      have pxn : blkOf x ≠ some p := fun e => by have := nx p e; omega
      have own2 : Own (H1.put p (rdr s a1 o)) 36 2 l.length (ec l) x := own.keep rfl (fun b hb => by
        have : b ≠ p := fun e => pxn (by rw [hb, e])
        simp [this])
      obtain ⟨H2, hH2⟩ : ∃ H2, H2 = H1.put p (rdr s a1 o) := ⟨_, rfl⟩
      rw [← hH2] at nT V2 fr2 own2
      obtain ⟨ax, hx⟩ := own.len
      have hnt : notTup x = true := by rw [hx]; rfl
      -- behind an item
      have behind : ∀ (H3 : Heap) (one : List Ent) (b : Nat) (y : Value) (tt : Tm), itemP (bts s) sub a1 = some (.ok one b) → tt 0 = ptr p → H3.WF → Fr H2 H3 p → Vr H3 p 67 3 (rdr s b o) → Own H3 36 2 one.length (ec one) y → (∀ c, blkOf y = some c → H2.next ≤ c) →
          goN Try.prog 42 [ptr p, x, y] H3 (fun o_1 H' => outK (fun v => wpON Try.prog [⟨some 3, .move (.tmp 42), none⟩] (blockA 1 (thenA (fun t' H' => ∃ m, m < k + 1 ∧ InvIt s H p o sub RR m t' H') (blockA 0 (EndN (ItemsQ s H p o RR) [.tmp 2])))) (put tt (some 42) v) H') (fun x => EndN (ItemsQ s H p o RR) [.tmp 2] (.panic [panE x]) tt H') o_1) := by
        intro H3 one b y tt hit u0 w3 fr3 V3 ony ny
        obtain ⟨q1, q2, q3⟩ := itemP_ok hso hit
        have own3 := Own.fr fr2.wf own2 pxn fr3
        have p2 := fr2.wf.lt V2.bq
        have hxlt : ∀ b, blkOf x = some b → b < H2.next := fun b hb => own2.lt fr2.wf hb
        have rN := repeat_N w3 own3 ony pxn (fun e => by have := ny p e; omega) (fun c hc hc2 => by have := hxlt c hc; have := ny c hc2; omega) hl1 q1 V3 q3 hl
        rw [hit] at hRR
        simp only at hRR
        refine goN_of rN ?_
        rintro r H4 ⟨fx, hq⟩ w4 _ _
        have fr4 : Fr H H4 p := by
          have f3 := fr2.trans fr3
          refine ⟨fx.wf, fx.base.trans f3.base, Nat.le_trans f3.next fx.next, fun b hb hp => ?_⟩
          rw [fx.keep b (Nat.lt_of_lt_of_le hb f3.next) hp (fun e => by have := nx b e; omega), f3.keep b hb hp]
        cases hr : repP (bts s) b l one with
        | err e b' =>
          rw [hr] at hq hRR
          have hq : r = .pan (stopV e b') := hq
          subst hq
          simp
          rw [hRR]
          exact ⟨fr4, rfl⟩
        | ok l' b' =>
          rw [hr] at hq hRR
          obtain ⟨x', rfl, own4, V4, px4, nx4⟩ := hq
          obtain ⟨q4, q5, q6⟩ := repP_ok q3 hr
          simp
          refine ⟨k, by omega, b', l', x', by omega, q6, q4, by simp [u0], by simp, hRR, fr4, own4, V4, fun c hc => ?_⟩
          rcases nx4 c hc with h | h
          · exact nx c h
          · have := (fr2.trans fr3).next; omega
      simp [L23_1, t0]
      refine goN_T nT ?_
      by_cases h40 : c = 40
      · subst h40
        have hal : a1 < (bts s).length := getD_pos hc.symm (by decide)
        have bN := bracket_N hsub ho hl fr2.wf V2 hal
        have hit : itemP (bts s) sub a1 = some (brP (bts s) sub a1) := by unfold itemP; rw [if_pos hc.symm]
        simp [t0]
        refine goN_of bN ?_
        rintro r H3 ⟨fr3, hq⟩ w3 _ _
        cases hb : brP (bts s) sub a1 with
        | err e b =>
          rw [hb] at hq hit
          rw [hit] at hRR
          have hq : r = .pan (stopV e b) := hq
          subst hq
          simp
          rw [hRR]
          exact ⟨fr2.trans fr3, rfl⟩
        | ok one b =>
          rw [hb] at hq hit
          obtain ⟨y, rfl, ony, V3, ny⟩ := hq
          simp [t0, t3]
          exact behind H3 one b y _ hit (by simp [t0]) w3 fr3 V3 ony ny
      · have c40 : ((c : Int) == 40) = false := by simp; omega
        -- a number, and a row of one
        have one_row : ∀ (H3 : Heap) (v : Int) (ab : Bool), H3.WF → Own (H3.new 36 2 (erow (v, ab))) 36 2 [(v, ab)].length (ec [(v, ab)]) (.slice (some ⟨H3.next, 0, none⟩) 1 0) := by
          intro H3 v ab w3
          exact Own.mk (by simp [ec, erow]) (by simpa using w3.next_ge) (by simp [ec])
        by_cases h33 : c = 33
        · subst h33
          have hal : a1 < (bts s).length := getD_pos hc.symm (by decide)
          have hit : itemP (bts s) sub a1 = some (numP (bts s) (a1 + 1) true) := by unfold itemP; rw [← hc, if_neg (by decide), if_pos rfl]
          have l1 : H2.load ⟨p, 1, none⟩ = some (iv a1) := V2.load 1
          have w1 : IntKind.i64.wrap ((a1 : Int) + 1) = ((a1 + 1 : Nat) : Int) := by rw [w64 _ (by omega)]; omega
          obtain ⟨a2, ha2⟩ : ∃ n, n = a1 + 1 := ⟨_, rfl⟩
          rw [← ha2] at w1 hit
          have st1 : H2.store ⟨p, 1, none⟩ (iv a2) = some (H2.put p (rdr s a2 o)) := by rw [V2.store 1 _ (by simp [rdr])]; rfl
          have V3 : Vr (H2.put p (rdr s a2 o)) p 67 3 (rdr s a2 o) := V2.put _
          have fr3 : Fr H2 (H2.put p (rdr s a2 o)) p := (Fr.refl fr2.wf p).put _
          have nN := number_N fr3.wf V3 (by omega) hl
          simp [c40, t0, l1, w1, st1]
          refine goN_of nN ?_
          intro r H4 hq w4 _ _
          unfold NumQ at hq
          unfold numP at hit
          cases hna : numAt (bts s) a2 with
          | none =>
            simp only [hna] at hq hit
            obtain ⟨rfl, fr4⟩ := hq
            rw [hit] at hRR
            simp
            rw [hRR]
            exact ⟨fr2.trans (fr3.trans fr4), rfl⟩
          | some v =>
            simp only [hna] at hq hit
            obtain ⟨rfl, rfl⟩ := hq
            have hz2 : zerosA [iv 0, .bool false] 2 = [iv 0, .bool false] := rfl
            have frN : Fr H2 (((H2.put p (rdr s a2 o)).put p (rdr s (run isD (bts s) a2) o)).new 36 2 (erow (v, true))) p := (fr3.put _).new _ _ _
            have ow := one_row ((H2.put p (rdr s a2 o)).put p (rdr s (run isD (bts s) a2) o)) v true (fr3.put _).wf
            have VN := (V3.put (rdr s (run isD (bts s) a2) o)).new (fr3.put _).wf 36 2 (erow (v, true))
            simp only [erow] at frN ow VN
            simp [hz2, t0, t3]
            exact behind _ _ _ _ _ hit (by simp [t0]) frN.wf frN VN ow (fun b hb => by
              have : H2.next = b := Option.some.inj hb
              omega)
        · have c33 : ((c : Int) == 33) = false := by simp; omega
          by_cases hD : isD c = true
          · have hit : itemP (bts s) sub a1 = some (numP (bts s) a1 false) := by unfold itemP; rw [← hc, if_neg h40, if_neg h33, if_pos hD]
            simp only [isD, Bool.and_eq_true, decide_eq_true_eq] at hD
            have d1 : (48 : Int) ≤ c := by omega
            have d2 : (c : Int) ≤ 57 := by omega
            have nN := number_N fr2.wf V2 n2 hl
            simp [c40, c33, t0, d1, d2, hD]
            refine goN_of nN ?_
            intro r H4 hq w4 _ _
            unfold NumQ at hq
            unfold numP at hit
            cases hna : numAt (bts s) a1 with
            | none =>
              simp only [hna] at hq hit
              obtain ⟨rfl, fr4⟩ := hq
              rw [hit] at hRR
              simp
              rw [hRR]
              exact ⟨fr2.trans fr4, rfl⟩
            | some v =>
              simp only [hna] at hq hit
              obtain ⟨rfl, rfl⟩ := hq
              have hz2 : zerosA [iv 0, .bool false] 2 = [iv 0, .bool false] := rfl
              have frN : Fr H2 ((H2.put p (rdr s (run isD (bts s) a1) o)).new 36 2 (erow (v, false))) p := ((Fr.refl fr2.wf p).put _).new _ _ _
              have ow := one_row (H2.put p (rdr s (run isD (bts s) a1) o)) v false ((Fr.refl fr2.wf p).put _).wf
              have VN := (V2.put (rdr s (run isD (bts s) a1) o)).new ((Fr.refl fr2.wf p).put _).wf 36 2 (erow (v, false))
              simp only [erow] at frN ow VN
              simp [hz2, t0, t3]
              exact behind _ _ _ _ _ hit (by simp [t0]) frN.wf frN VN ow (fun b hb => by
                have : H2.next = b := Option.some.inj hb
                omega)
          · have hit : itemP (bts s) sub a1 = none := by unfold itemP; rw [← hc, if_neg h40, if_neg h33, if_neg hD]
            rw [hit] at hRR
            simp only at hRR
            simp only [isD, Bool.and_eq_true, decide_eq_true_eq] at hD
            by_cases d1 : 48 ≤ c
            · have d1' : (48 : Int) ≤ c := by omega
              have d2 : ¬ (c : Int) ≤ 57 := by omega
              have d2' : ¬ c ≤ 57 := by omega
              simp [c40, c33, t0, t3, d1, d1', d2, d2', hnt]
              rw [hRR]
              exact ⟨fr2, x, rfl, own2, V2, nx⟩
            · have d1' : ¬ (48 : Int) ≤ c := by omega
              simp [c40, c33, t0, t3, d1, d1', hnt]
              rw [hRR]
              exact ⟨fr2, x, rfl, own2, V2, nx⟩
theorem items_N {s : ByteArray} {p : Nat} (hl : (bts s).length ≤ 100000) : ∀ (k o : Nat), o + k = 8 → ∀ (H : Heap) (a : Nat), H.WF → Vr H p 67 3 (rdr s a o) → a ≤ (bts s).length → TN Try.prog 23 [ptr p] H (ItemsQ s H p o (items (bts s) k a))
  | 0, o, ho, H, a, hw, V, ha => loop_N (sub := none) (by show o = 8; omega) (by omega) hl hw V ha
  | k + 1, o, ho, H, a, hw, V, ha => loop_N (sub := some (items (bts s) k)) ⟨by omega, items_ok (bts s) k, fun H a hw V ha => items_N hl k (o + 1) (by omega) H a hw V ha⟩ (by omega) hl hw V ha
end Go.Proofs.Ytmdlfenileiaeaa
