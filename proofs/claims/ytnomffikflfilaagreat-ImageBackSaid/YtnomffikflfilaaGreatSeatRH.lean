/-
  Chapter 26: small numbers and lists of numbers taken up. Chapter 26: cells and reductions taken up. Chapter 26: texts of instructions taken up.
-/
import Derived.Test.YtnomffikflfilaaGreatSeatRA
namespace Go.Proofs.YtnomffikflfilaaGreat.E8
open I8
open Go.Ot Go.RowKit
open R14 (ci)
set_option linter.unusedSimpArgs false
set_option linter.unusedVariables false
set_option maxRecDepth 100000
abbrev M31 : Nat := 2147483648
theorem small_T {H : Heap} {p : Nat} {x : Value} {b l : List Nat} {f : Nat} (h : RS H p x b l f) :
    T Tryz.prog 54 [ptr p] H (iv (rdP M31 l f).1) (H.put p (rsC x b (rdP M31 l f).2.1 (rdP M31 l f).2.2)) := by
  refine T_eq hm light54 ?_
  have T1 := ruint_T h
  unfold rdP
  obtain ⟨u, hu⟩ : ∃ u, u = (uS l f).1 := ⟨_, rfl⟩
  rw [← hu] at T1 ⊢
  simp only
  obtain ⟨G, hG⟩ : ∃ G, G = H.put p (rsC x b (uS l f).2.1 (uS l f).2.2) := ⟨_, rfl⟩
  rw [← hG] at T1 ⊢
  obtain ⟨m, hm'⟩ : ∃ m, m = min u M31 := ⟨_, rfl⟩
  have e1 : (if 2147483648 < u then (2147483648 : Int) else (u : Int)) = (m : Int) := by unfold M31 at hm'; split <;> omega
  have hml : m ≤ 2147483648 := by unfold M31 at hm'; omega
  have e2 : IntKind.i64.wrap (m : Int) = (m : Int) := w64 _ (by omega)
  rw [← hm']
  simp [L54]
  refine goT_of T1 ?_
  simp [e1, e2]
theorem rdP_le (M : Nat) (l : List Nat) (f : Nat) : (rdP M l f).1 ≤ M := Nat.min_le_right _ _
theorem iS_ok {l : List Nat} {f : Nat} (hl : ∀ c ∈ l, c < 256) : okI (iS l f).1 := by
  have h := uS_lt l f hl
  unfold iS unzz okI
  simp only
  split <;> omega
theorem iS_suf (l : List Nat) (f : Nat) : (iS l f).2.1 <:+ l := uS_suf l f
theorem Rn.trans {H G G' : Heap} {p : Nat} {x : Value} {b l l2 : List Nat} {f f2 : Nat} (h : Rn H G p x b l f) (g : Rn G G' p x b l2 f2) : Rn H G' p x b l2 f2 :=
  ⟨g.rs, h.wf0, g.wf, g.base.trans h.base, Nat.le_trans h.next g.next, h.same.trans h.next g.same (fun c _ hc => hc), h.hp, h.xl⟩
theorem Rn.self {H G : Heap} {p : Nat} {x : Value} {b l : List Nat} {f : Nat} (h : Rn H G p x b l f) : Rn G G p x b l f :=
  Rn.refl h.wf h.rs (fun c hc => Nat.lt_of_lt_of_le (h.xl c hc) h.next)
theorem pushR {H G : Heap} {p : Nat} {xr : Value} {b l : List Nat} {f : Nat} (R : Rn H G p xr b l f) {ety sz n bytes : Nat} {cells : List Value} {y : Value} (own : Own G ety sz n cells y) (yn : ∀ c, blkOf y = some c → H.next ≤ c) (row : List Value) (hr : row.length = sz) (h0 : 0 < sz) (hb : (n + 1) * bytes ≤ 140737488355328) :
    ∃ a GA, sAppend (G.new ety sz row) ety sz bytes y (.slice (some ⟨G.next, 0, none⟩) 1 0) = some (.slice (some a) (n + 1) 0, GA) ∧ Rn H GA p xr b l f ∧ Own GA ety sz (n + 1) (cells ++ row) (.slice (some a) (n + 1) 0) ∧ (∀ c, blkOf (.slice (some a) (n + 1) 0) = some c → G.next ≤ c) ∧ (∀ c, c < G.next → blkOf y ≠ some c → GA.blk c = G.blk c) ∧ G.next ≤ GA.next := by
  have hw := R.wf
  have hnB := hw.next_ge
  have hn := R.next
  have hpp := R.hp
  have hsrc : srcCells (G.new ety sz row) sz (.slice (some ⟨G.next, 0, none⟩) 1 0) = some (1, row) := by
    rw [src_at (ety := ety) (cs := row) (by simpa using hnB) (by simp) (by omega)]
    simp [List.take_of_length_le, hr]
  have hap := append_any (bytes := bytes) (own.new hw ety sz row) hsrc (by omega) hb
  have keep2 : ∀ c, c < G.next → blkOf y ≠ some c → (((G.new ety sz row).drop y).new ety sz (cells ++ row)).blk c = G.blk c := fun c hc hy => by
    simp [show c ≠ G.next by omega, show c ≠ G.next + 1 by omega, blk_drop, hy]
  have keep : ∀ c, c < H.next → (((G.new ety sz row).drop y).new ety sz (cells ++ row)).blk c = G.blk c := fun c hc => keep2 c (by omega) (fun e => by have := yn _ e; omega)
  refine ⟨_, _, hap, ⟨R.rs.frame (by simp) (keep p hpp) (fun c hc => keep c (R.xl c hc)), R.wf0, WF_new (WF_drop (WF_new hw _ _ _) _) _ _ _, by simpa using R.base, by simp; omega, fun c hc hne => (keep c hc).trans (R.same c hc hne), hpp, R.xl⟩, ?_, ?_, keep2, by simp; omega⟩
  · refine Own.mk (by simp [own.1, hr, Nat.add_mul]) (by simp; omega) ?_
    simp
  · intro c hc
    simp at hc; omega
def intsS : Nat → List Nat → Nat → List Int → List Int × List Nat × Nat
  | 0, l, f, acc => (acc, l, f)
  | n + 1, l, f, acc => intsS n (iS l f).2.1 (iS l f).2.2 (acc ++ [(iS l f).1])
def listR (r : List Int × List Nat × Nat) : List Int × List Nat × Nat := if r.2.2 ≠ 0 then ([], r.2) else r
def listS (l : List Nat) (f : Nat) : List Int × List Nat × Nat := listR (intsS (countS l f 1).1 (countS l f 1).2.1 (countS l f 1).2.2 [])
theorem count_small {l : List Nat} {f : Nat} {k : Int} : (countS l f k).1 ≤ l.length := by
  by_cases h : (countS l f k).2.2 = 0
  · exact Nat.le_trans (countS_le l f k h) (countS_suf l f k).length_le
  · have : (countS l f k).1 = 0 := by
      unfold countS at h ⊢
      split
      · rfl
      · rename_i h1
        rw [if_neg h1] at h
        exact uS_fail l f h
    omega
theorem intsS_ok : ∀ (n : Nat) (l : List Nat) (f : Nat) (acc : List Int), (∀ c ∈ l, c < 256) → (∀ a ∈ acc, okI a) → ∀ a ∈ (intsS n l f acc).1, okI a
  | 0, l, f, acc, hl, ha => ha
  | n + 1, l, f, acc, hl, ha => by
    refine intsS_ok n _ _ _ (fun c hc => hl c ((iS_suf l f).mem hc)) (fun a h => ?_)
    rcases List.mem_append.1 h with h | h
    · exact ha a h
    · simp only [List.mem_singleton] at h
      subst h
      exact iS_ok hl
theorem listS_ok {l : List Nat} {f : Nat} (hl : ∀ c ∈ l, c < 256) : ∀ a ∈ (listS l f).1, okI a := by
  unfold listS listR
  split
  · intro a h; cases h
  · exact intsS_ok _ _ _ _ (fun c hc => hl c ((countS_suf l f 1).mem hc)) (fun a h => by cases h)
def InvLi (H : Heap) (p : Nat) (x : Value) (b : List Nat) (want : List Int × List Nat × Nat) (n : Nat) (k : Nat) (t : Tm) (G : Heap) : Prop :=
  ∃ (i : Nat) (l : List Nat) (f : Nat) (acc : List Int) (y : Value), i + k = n ∧ acc.length = i ∧ t 0 = ptr p ∧ t 4 = y ∧ t 7 = iv n ∧ t 8 = iv i ∧ Rn H G p x b l f ∧ Own G 2 1 acc.length (ci acc) y ∧ (∀ c, blkOf y = some c → H.next ≤ c) ∧ intsS k l f acc = want
theorem ints_T {H : Heap} {p : Nat} {x : Value} {b l : List Nat} {f : Nat} (R : Rn H H p x b l f) (hbl : b.length ≤ 2000000) :
    ∃ v G, T Tryz.prog 97 [ptr p] H v G ∧ Rn H G p x b (listS l f).2.1 (listS l f).2.2 ∧ Own G 2 1 (listS l f).1.length (ci (listS l f).1) v ∧ (∀ c, blkOf v = some c → H.next ≤ c) := by
  refine T_by hm light97 ?_
  have T1 := rcount_T R.rs 1 (by unfold okI2; omega)
  have R1 := R.step (countS l f 1).2.2 (countS_suf l f 1)
  have hsm : (countS l f 1).1 ≤ 2000000 := Nat.le_trans count_small (Nat.le_trans R.rs.suf.length_le hbl)
  unfold listS
  obtain ⟨n, hn⟩ : ∃ n, n = (countS l f 1).1 := ⟨_, rfl⟩
  obtain ⟨l1, hl1⟩ : ∃ l1, l1 = (countS l f 1).2.1 := ⟨_, rfl⟩
  obtain ⟨f1, hf1⟩ : ∃ f1, f1 = (countS l f 1).2.2 := ⟨_, rfl⟩
  rw [← hn, ← hl1, ← hf1] at T1 ⊢
  rw [← hl1, ← hf1] at R1
  rw [← hn] at hsm
  obtain ⟨want, hwant⟩ : ∃ want, want = intsS n l1 f1 [] := ⟨_, rfl⟩
  rw [← hwant]
  obtain ⟨G0, hG0⟩ : ∃ G0, G0 = H.put p (rsC x b l1 f1) := ⟨_, rfl⟩
  rw [← hG0] at T1 R1
  simp [L97]
  refine goT_of T1 ?_
  simp
  refine loop_at (InvLi H p x b want n) n ?_ ?_
  · exact ⟨0, l1, f1, [], .slice none 0 0, by omega, rfl, by simp, by simp, by simp, by simp, R1, by simpa [ci] using Own.nil G0 2 1, (fun c hc => by cases hc), hwant.symm⟩
  rintro k t G ⟨i, l2, f2, acc, y, hik, hacc, t0, t4, t7, t8, R2, own, yn, hw⟩
  cases k with
  | zero =>
    have ei : i = n := by omega
    subst ei
    have hw2 : want = (acc, l2, f2) := hw.symm
    have lf : G.load ⟨p, 2, none⟩ = some (iv (f2 : Int)) := by rw [load_at R2.rs.rd.hp R2.rs.rd.bp]; rfl
    rw [hw2]
    unfold listR
    obtain ⟨ya, hya⟩ := own.len
    have ny : notTup y = true := by rw [hya]; rfl
    by_cases hf : f2 = 0
    · rw [if_neg (by simpa using hf)]
      simp [L97_1, t7, t8, t0, lf, hf, t4, ny]
      subst hf
      exact ⟨R2, own, yn⟩
    · rw [if_pos (by simpa using hf)]
      simp [L97_1, t7, t8, t0, lf, hf]
      exact ⟨R2, by simpa [ci] using Own.nil G 2 1⟩
  | succ k =>
    have hi : (i : Int) < (n : Int) := by omega
    have hiN : i < n := by omega
    have e4 : IntKind.i64.wrap ((i : Int) + 1) = ((i + 1 : Nat) : Int) := by rw [w64 _ (by omega)]; omega
    obtain ⟨iN, hiN2⟩ : ∃ z : Nat, z = i + 1 := ⟨_, rfl⟩
    rw [← hiN2] at e4
    have T3 := rint_T R2.rs
    have R3 := R2.step (iS l2 f2).2.2 (iS_suf l2 f2)
    obtain ⟨G3, hG3⟩ : ∃ G3, G3 = G.put p (rsC x b (iS l2 f2).2.1 (iS l2 f2).2.2) := ⟨_, rfl⟩
    rw [← hG3] at T3 R3
    have own3 : Own G3 2 1 acc.length (ci acc) y := own.keep (B_eq (by rw [hG3]; rfl)) (fun c hc => by
      have := yn c hc
      have := R2.hp
      rw [hG3]; simp [show c ≠ p by omega])
    obtain ⟨a, GA, ap, RA, oA, nA, kA, _⟩ := pushR (bytes := 8) R3 own3 yn [iv (iS l2 f2).1] rfl (by decide) (by omega)
    obtain ⟨v, hv⟩ : ∃ v, v = (iS l2 f2).1 := ⟨_, rfl⟩
    rw [← hv] at ap oA T3
    have z1 : zerosA [iv 0] 1 = [iv 0] := rfl
    have oA2 : Own GA 2 1 (acc ++ [v]).length (ci (acc ++ [v])) (.slice (some a) (acc.length + 1) 0) := by simpa [ci] using oA
    simp [L97_1, t7, t8, hi, hiN, t0]
    refine goT_of T3 ?_
    simp [t4, z1, ap, t8, e4]
    refine ⟨k, by omega, iN, (iS l2 f2).2.1, (iS l2 f2).2.2, acc ++ [v], (.slice (some a) (acc.length + 1) 0), by omega, by simp [hacc, hiN2], by simp [t0], by simp, by simp [t7], by simp, RA, oA2, (fun c hc => by have := nA c hc; have := R3.next; omega), ?_⟩
    rw [← hw, hv]; rfl
end Go.Proofs.YtnomffikflfilaaGreat.E8
namespace Go.Proofs.YtnomffikflfilaaGreat.E8
open I8
open Go.Ot Go.RowKit
open R14 (ci Twos)
set_option linter.unusedSimpArgs false
set_option linter.unusedVariables false
set_option maxRecDepth 100000
def tw (l : List (Int × Int)) : List Value := (l.map fun a => [iv a.1, iv a.2]).flatten
theorem own_twos {G : Heap} {ety : Nat} {l : List (Int × Int)} {y : Value} (h : Own G ety 2 l.length (tw l) y) : Twos G y l := by
  have h' : Own G ety 2 (l.map fun a => [iv a.1, iv a.2]).length (l.map fun a => [iv a.1, iv a.2]).flatten y := by simpa [tw] using h
  have hr := h'.rws (by intro r hr; obtain ⟨q, _, rfl⟩ := List.mem_map.1 hr; rfl)
  rcases hr with ⟨rfl, h0⟩ | ⟨b, off, c, rfl, h3⟩
  · exact .inl ⟨rfl, by simpa using h0⟩
  · refine .inr ⟨b, off, c, by simp, fun i hi => ?_⟩
    obtain ⟨_, h2⟩ := h3 i (by simpa using hi)
    simp only [List.getElem_map] at h2
    exact ⟨h2 0 (by simp), h2 1 (by simp)⟩
def cellsS : Nat → List Nat → Nat → List (Int × Int) → List (Int × Int) × List Nat × Nat
  | 0, l, f, acc => (acc, l, f)
  | n + 1, l, f, acc => cellsS n (iS (rdP M31 l f).2.1 (rdP M31 l f).2.2).2.1 (iS (rdP M31 l f).2.1 (rdP M31 l f).2.2).2.2 (acc ++ [(((rdP M31 l f).1 : Int), (iS (rdP M31 l f).2.1 (rdP M31 l f).2.2).1)])
def InvT1 (H H1 : Heap) (p q : Nat) (x : Value) (b : List Nat) (cs : List Value) (want : List (Int × Int) × List Nat × Nat) (n : Nat) (t0 : Tm) (k : Nat) (t : Tm) (G : Heap) : Prop :=
  ∃ (i : Nat) (l : List Nat) (f : Nat) (acc : List (Int × Int)) (y : Value), i + k = n ∧ acc.length = i ∧ t 0 = ptr p ∧ t 2 = t0 2 ∧ t 4 = ptr q ∧ t 14 = iv n ∧ t 15 = iv i ∧ Rn H G p x b l f ∧ Vr G q 29 11 (cs.set 1 y) ∧ Own G 98 2 acc.length (tw acc) y ∧ (∀ c, blkOf y = some c → H1.next ≤ c) ∧ H1.next ≤ G.next ∧ Same H1 G [p, q] ∧ cellsS k l f acc = want
theorem cellsT {H H1 : Heap} {p q : Nat} {x : Value} {b l : List Nat} {f n : Nat} {cs : List Value} (R : Rn H H1 p x b l f) (hq : H.next ≤ q) (V : Vr H1 q 29 11 cs) (hlen : cs.length = 11) (hx : cs[1]? = some (.slice none 0 0)) (hn : n ≤ 2000000)
    {Q : Post} {t : Tm} (t0 : t 0 = ptr p) (t4 : t 4 = ptr q) (t14 : t 14 = iv n) (t15 : t 15 = iv 0)
    (hE : ∀ (t' : Tm) (G : Heap) (xc : Value), t' 0 = ptr p → t' 2 = t 2 → t' 4 = ptr q → Rn H G p x b (cellsS n l f []).2.1 (cellsS n l f []).2.2 → Vr G q 29 11 (cs.set 1 xc) → Twos G xc (cellsS n l f []).1 → (∀ c, blkOf xc = some c → H1.next ≤ c ∧ c < G.next) → H1.next ≤ G.next → Same H1 G [p, q] → Q (.exit 0) t' (rdy G)) : wpA Tryz.prog (.loop L52_1) Q t (rdy H1) := by
  obtain ⟨want, hwant⟩ : ∃ w, w = cellsS n l f [] := ⟨_, rfl⟩
  rw [← hwant] at hE
  have hn1 := R.next
  have hql := R.wf.lt V.bq
  refine loop_at (InvT1 H H1 p q x b cs want n t) n ?_ ?_
  · refine ⟨0, l, f, [], .slice none 0 0, by omega, rfl, t0, rfl, t4, t14, t15, R, ?_, by simpa [tw] using Own.nil H1 98 2, (fun c hc => by cases hc), Nat.le_refl _, Same.refl _ _, hwant.symm⟩
    have e : cs.set 1 (.slice none 0 0) = cs := by
      rw [List.getElem?_eq_some_iff] at hx
      obtain ⟨h1, h2⟩ := hx
      rw [← h2, List.set_getElem_self]
    rw [e]; exact V
  rintro k t1 G ⟨i, l2, f2, acc, y, hik, hacc, u0, u2, u4, u14, u15, R2, V2, own, yn, hnG, sm, hw⟩
  have hl1 : (cs.set 1 y).length = 11 := by simpa using hlen
  have hqp : q ≠ p := fun e => by have := R.hp; omega
  cases k with
  | zero =>
    have ei : i = n := by omega
    subst ei
    have hw2 : want = (acc, l2, f2) := hw.symm
    rw [hw2] at hE
    simp [L52_1, u14, u15]
    exact hE _ _ y (by simp [u0]) (by simp [u2]) (by simp [u4]) R2 V2 (own_twos own) (fun c hc => ⟨yn c hc, own.lt R2.wf hc⟩) hnG sm
  | succ k =>
    have hi : i < n := by omega
    have hiI : (i : Int) < (n : Int) := by omega
    have e4 : IntKind.i64.wrap ((i : Int) + 1) = ((i + 1 : Nat) : Int) := by rw [w64 _ (by omega)]; omega
    obtain ⟨iN, hiN⟩ : ∃ z : Nat, z = i + 1 := ⟨_, rfl⟩
    rw [← hiN] at e4
    have qG := R2.wf.lt V2.bq
    have T1 := small_T R2.rs
    have R3 := R2.step (rdP M31 l2 f2).2.2 (rdP_suf M31 l2 f2)
    obtain ⟨a, ha⟩ : ∃ a : Nat, a = (rdP M31 l2 f2).1 := ⟨_, rfl⟩
    obtain ⟨l3, hl3⟩ : ∃ l3, l3 = (rdP M31 l2 f2).2.1 := ⟨_, rfl⟩
    obtain ⟨f3, hf3⟩ : ∃ f3, f3 = (rdP M31 l2 f2).2.2 := ⟨_, rfl⟩
    rw [← ha, ← hl3, ← hf3] at T1
    rw [← hl3, ← hf3] at R3
    obtain ⟨G1, hG1⟩ : ∃ G1, G1 = G.put p (rsC x b l3 f3) := ⟨_, rfl⟩
    rw [← hG1] at T1 R3
    have T2 := rint_T R3.rs
    have R4 := R3.step (iS l3 f3).2.2 (iS_suf l3 f3)
    obtain ⟨v, hv⟩ : ∃ v : Int, v = (iS l3 f3).1 := ⟨_, rfl⟩
    obtain ⟨l4, hl4⟩ : ∃ l4, l4 = (iS l3 f3).2.1 := ⟨_, rfl⟩
    obtain ⟨f4, hf4⟩ : ∃ f4, f4 = (iS l3 f3).2.2 := ⟨_, rfl⟩
    rw [← hv, ← hl4, ← hf4] at T2
    rw [← hl4, ← hf4] at R4
    obtain ⟨G2, hG2⟩ : ∃ G2, G2 = G1.put p (rsC x b l4 f4) := ⟨_, rfl⟩
    rw [← hG2] at T2 R4
    have V3 : Vr G1 q 29 11 (cs.set 1 y) := by rw [hG1]; exact V2.beside hqp _
    have V4 : Vr G2 q 29 11 (cs.set 1 y) := by rw [hG2]; exact V3.beside hqp _
    have V5 : Vr (G2.new 98 2 [iv a, iv v]) q 29 11 (cs.set 1 y) := V4.new R4.wf _ _ _
    have nG : G2.next = G.next := by rw [hG2, hG1]; rfl
    have ynp : ∀ c, blkOf y = some c → c ≠ p ∧ c ≠ q := fun c hc => by have := yn c hc; have := R.hp; omega
    have own4 : Own G2 98 2 acc.length (tw acc) y := own.keep (B_eq (by rw [hG2, hG1]; rfl)) (fun c hc => by
      obtain ⟨h1, _⟩ := ynp c hc
      rw [hG2, hG1]; simp [h1])
    obtain ⟨aA, GA, ap, RA, oA, nA, kA, mA⟩ := pushR (bytes := 16) R4 own4 (fun c hc => by have := yn c hc; omega) [iv a, iv v] rfl (by decide) (by omega)
    have hyq : blkOf y ≠ some q := fun e => (ynp q e).2 rfl
    have VA : Vr GA q 29 11 (cs.set 1 y) := V4.keep (RA.base.trans R4.base.symm) (kA q (by omega) hyq)
    obtain ⟨s, hs⟩ : ∃ s, s = Value.slice (some aA) (acc.length + 1) 0 := ⟨_, rfl⟩
    rw [← hs] at ap oA nA
    have stq : GA.store ⟨q, 1, none⟩ s = some (GA.put q (cs.set 1 s)) := by rw [VA.store 1 s (by omega), List.set_set]
    have stq' : sStore GA 1 (.pointer (some ⟨q, 1, none⟩)) s = some (GA.put q (cs.set 1 s)) := by rw [← stq, hs]; simp
    have ld0 : G.load ⟨q, 1, none⟩ = some y := by rw [V2.load 1]; simp [hlen]
    have ld1 : G1.load ⟨q, 1, none⟩ = some y := by rw [V3.load 1]; simp [hlen]
    have ld2 : G2.load ⟨q, 1, none⟩ = some y := by rw [V4.load 1]; simp [hlen]
    have ld3 : (G2.new 98 2 [iv a, iv v]).load ⟨q, 1, none⟩ = some y := by rw [V5.load 1]; simp [hlen]
    have z2 : zerosA [iv 0, iv 0] 2 = [iv 0, iv 0] := rfl
    have lps := R2.rs.rd.bp
    obtain ⟨ay, hy⟩ := own.len
    have RB := RA.put hq (cs.set 1 s)
    have VB : Vr (GA.put q (cs.set 1 s)) q 29 11 (cs.set 1 s) := VA.put _
    have oB : Own (GA.put q (cs.set 1 s)) 98 2 (acc ++ [((a : Int), v)]).length (tw (acc ++ [((a : Int), v)])) s := by
      have o2 : Own GA 98 2 (acc ++ [((a : Int), v)]).length (tw (acc ++ [((a : Int), v)])) s := by simpa [tw] using oA
      exact o2.keep (B_eq rfl) (fun c hc => by have := nA c hc; simp [show c ≠ q by omega])
    have smB : Same H1 (GA.put q (cs.set 1 s)) [p, q] := fun c hc hcn => by
      have h1 : c ≠ p ∧ c ≠ q := by simpa using hcn
      have h2 : blkOf y ≠ some c := fun e => by have := yn c e; omega
      simp only [blk_put, if_neg h1.2]
      rw [kA c (by omega) h2, hG2, hG1]
      simp [h1.1]
      exact sm c hc hcn
    have hwn : cellsS k l4 f4 (acc ++ [((a : Int), v)]) = want := by
      rw [← hw, hl4, hf4, ha, hv, hl3, hf3]; rfl
    simp [L52_1, u14, u15, hiI, hi, u0, u4, ld0]
    refine goT_of T1 ?_
    simp [u0, u4, ld0, ld1]
    refine goT_of T2 ?_
    simp [u4, ld0, ld1, ld2, ld3, z2, ap, stq', u15, e4]
    refine ⟨k, by omega, iN, l4, f4, acc ++ [((a : Int), v)], s, by omega, by simp [hacc, hiN], by simp [u0], by simp [u2], by simp [u4], by simp [u14], by simp, RB, VB, oB, (fun c hc => by have := nA c hc; omega), ?_, smB, hwn⟩
    show H1.next ≤ (GA.put q (cs.set 1 s)).next
    simp
    omega
def InvT2 (H H1 : Heap) (p q : Nat) (x : Value) (b : List Nat) (cs : List Value) (want : List (Int × Int) × List Nat × Nat) (n : Nat) (t0 : Tm) (k : Nat) (t : Tm) (G : Heap) : Prop :=
  ∃ (i : Nat) (l : List Nat) (f : Nat) (acc : List (Int × Int)) (y : Value), i + k = n ∧ acc.length = i ∧ t 0 = ptr p ∧ t 2 = t0 2 ∧ t 4 = ptr q ∧ t 29 = iv n ∧ t 30 = iv i ∧ Rn H G p x b l f ∧ Vr G q 29 11 (cs.set 2 y) ∧ Own G 101 2 acc.length (tw acc) y ∧ (∀ c, blkOf y = some c → H1.next ≤ c) ∧ H1.next ≤ G.next ∧ Same H1 G [p, q] ∧ cellsS k l f acc = want
theorem redsT {H H1 : Heap} {p q : Nat} {x : Value} {b l : List Nat} {f n : Nat} {cs : List Value} (R : Rn H H1 p x b l f) (hq : H.next ≤ q) (V : Vr H1 q 29 11 cs) (hlen : cs.length = 11) (hx : cs[2]? = some (.slice none 0 0)) (hn : n ≤ 2000000)
    {Q : Post} {t : Tm} (t0 : t 0 = ptr p) (t4 : t 4 = ptr q) (t29 : t 29 = iv n) (t30 : t 30 = iv 0)
    (hE : ∀ (t' : Tm) (G : Heap) (xc : Value), t' 0 = ptr p → t' 2 = t 2 → t' 4 = ptr q → Rn H G p x b (cellsS n l f []).2.1 (cellsS n l f []).2.2 → Vr G q 29 11 (cs.set 2 xc) → Twos G xc (cellsS n l f []).1 → (∀ c, blkOf xc = some c → H1.next ≤ c ∧ c < G.next) → H1.next ≤ G.next → Same H1 G [p, q] → Q (.exit 2) t' (rdy G)) : wpA Tryz.prog (.loop L52_2) Q t (rdy H1) := by
  obtain ⟨want, hwant⟩ : ∃ w, w = cellsS n l f [] := ⟨_, rfl⟩
  rw [← hwant] at hE
  have hn1 := R.next
  have hql := R.wf.lt V.bq
  refine loop_at (InvT2 H H1 p q x b cs want n t) n ?_ ?_
  · refine ⟨0, l, f, [], .slice none 0 0, by omega, rfl, t0, rfl, t4, t29, t30, R, ?_, by simpa [tw] using Own.nil H1 101 2, (fun c hc => by cases hc), Nat.le_refl _, Same.refl _ _, hwant.symm⟩
    have e : cs.set 2 (.slice none 0 0) = cs := by
      rw [List.getElem?_eq_some_iff] at hx
      obtain ⟨h1, h2⟩ := hx
      rw [← h2, List.set_getElem_self]
    rw [e]; exact V
  rintro k t1 G ⟨i, l2, f2, acc, y, hik, hacc, u0, u2, u4, u29, u30, R2, V2, own, yn, hnG, sm, hw⟩
  have hl1 : (cs.set 2 y).length = 11 := by simpa using hlen
  have hqp : q ≠ p := fun e => by have := R.hp; omega
  cases k with
  | zero =>
    have ei : i = n := by omega
    subst ei
    have hw2 : want = (acc, l2, f2) := hw.symm
    rw [hw2] at hE
    simp [L52_2, u29, u30]
    exact hE _ _ y (by simp [u0]) (by simp [u2]) (by simp [u4]) R2 V2 (own_twos own) (fun c hc => ⟨yn c hc, own.lt R2.wf hc⟩) hnG sm
  | succ k =>
    have hi : i < n := by omega
    have hiI : (i : Int) < (n : Int) := by omega
    have e4 : IntKind.i64.wrap ((i : Int) + 1) = ((i + 1 : Nat) : Int) := by rw [w64 _ (by omega)]; omega
    obtain ⟨iN, hiN⟩ : ∃ z : Nat, z = i + 1 := ⟨_, rfl⟩
    rw [← hiN] at e4
    have qG := R2.wf.lt V2.bq
    have T1 := small_T R2.rs
    have R3 := R2.step (rdP M31 l2 f2).2.2 (rdP_suf M31 l2 f2)
    obtain ⟨a, ha⟩ : ∃ a : Nat, a = (rdP M31 l2 f2).1 := ⟨_, rfl⟩
    obtain ⟨l3, hl3⟩ : ∃ l3, l3 = (rdP M31 l2 f2).2.1 := ⟨_, rfl⟩
    obtain ⟨f3, hf3⟩ : ∃ f3, f3 = (rdP M31 l2 f2).2.2 := ⟨_, rfl⟩
    rw [← ha, ← hl3, ← hf3] at T1
    rw [← hl3, ← hf3] at R3
    obtain ⟨G1, hG1⟩ : ∃ G1, G1 = G.put p (rsC x b l3 f3) := ⟨_, rfl⟩
    rw [← hG1] at T1 R3
    have T2 := rint_T R3.rs
    have R4 := R3.step (iS l3 f3).2.2 (iS_suf l3 f3)
    obtain ⟨v, hv⟩ : ∃ v : Int, v = (iS l3 f3).1 := ⟨_, rfl⟩
    obtain ⟨l4, hl4⟩ : ∃ l4, l4 = (iS l3 f3).2.1 := ⟨_, rfl⟩
    obtain ⟨f4, hf4⟩ : ∃ f4, f4 = (iS l3 f3).2.2 := ⟨_, rfl⟩
    rw [← hv, ← hl4, ← hf4] at T2
    rw [← hl4, ← hf4] at R4
    obtain ⟨G2, hG2⟩ : ∃ G2, G2 = G1.put p (rsC x b l4 f4) := ⟨_, rfl⟩
    rw [← hG2] at T2 R4
    have V3 : Vr G1 q 29 11 (cs.set 2 y) := by rw [hG1]; exact V2.beside hqp _
    have V4 : Vr G2 q 29 11 (cs.set 2 y) := by rw [hG2]; exact V3.beside hqp _
    have V5 : Vr (G2.new 101 2 [iv a, iv v]) q 29 11 (cs.set 2 y) := V4.new R4.wf _ _ _
    have nG : G2.next = G.next := by rw [hG2, hG1]; rfl
    have ynp : ∀ c, blkOf y = some c → c ≠ p ∧ c ≠ q := fun c hc => by have := yn c hc; have := R.hp; omega
    have own4 : Own G2 101 2 acc.length (tw acc) y := own.keep (B_eq (by rw [hG2, hG1]; rfl)) (fun c hc => by
      obtain ⟨h1, _⟩ := ynp c hc
      rw [hG2, hG1]; simp [h1])
    obtain ⟨aA, GA, ap, RA, oA, nA, kA, mA⟩ := pushR (bytes := 16) R4 own4 (fun c hc => by have := yn c hc; omega) [iv a, iv v] rfl (by decide) (by omega)
    have hyq : blkOf y ≠ some q := fun e => (ynp q e).2 rfl
    have VA : Vr GA q 29 11 (cs.set 2 y) := V4.keep (RA.base.trans R4.base.symm) (kA q (by omega) hyq)
    obtain ⟨s, hs⟩ : ∃ s, s = Value.slice (some aA) (acc.length + 1) 0 := ⟨_, rfl⟩
    rw [← hs] at ap oA nA
    have stq : GA.store ⟨q, 2, none⟩ s = some (GA.put q (cs.set 2 s)) := by rw [VA.store 2 s (by omega), List.set_set]
    have stq' : sStore GA 1 (.pointer (some ⟨q, 2, none⟩)) s = some (GA.put q (cs.set 2 s)) := by rw [← stq, hs]; simp
    have ld0 : G.load ⟨q, 2, none⟩ = some y := by rw [V2.load 2]; simp [hlen]
    have ld1 : G1.load ⟨q, 2, none⟩ = some y := by rw [V3.load 2]; simp [hlen]
    have ld2 : G2.load ⟨q, 2, none⟩ = some y := by rw [V4.load 2]; simp [hlen]
    have ld3 : (G2.new 101 2 [iv a, iv v]).load ⟨q, 2, none⟩ = some y := by rw [V5.load 2]; simp [hlen]
    have z2 : zerosA [iv 0, iv 0] 2 = [iv 0, iv 0] := rfl
    have lps := R2.rs.rd.bp
    obtain ⟨ay, hy⟩ := own.len
    have RB := RA.put hq (cs.set 2 s)
    have VB : Vr (GA.put q (cs.set 2 s)) q 29 11 (cs.set 2 s) := VA.put _
    have oB : Own (GA.put q (cs.set 2 s)) 101 2 (acc ++ [((a : Int), v)]).length (tw (acc ++ [((a : Int), v)])) s := by
      have o2 : Own GA 101 2 (acc ++ [((a : Int), v)]).length (tw (acc ++ [((a : Int), v)])) s := by simpa [tw] using oA
      exact o2.keep (B_eq rfl) (fun c hc => by have := nA c hc; simp [show c ≠ q by omega])
    have smB : Same H1 (GA.put q (cs.set 2 s)) [p, q] := fun c hc hcn => by
      have h1 : c ≠ p ∧ c ≠ q := by simpa using hcn
      have h2 : blkOf y ≠ some c := fun e => by have := yn c e; omega
      simp only [blk_put, if_neg h1.2]
      rw [kA c (by omega) h2, hG2, hG1]
      simp [h1.1]
      exact sm c hc hcn
    have hwn : cellsS k l4 f4 (acc ++ [((a : Int), v)]) = want := by
      rw [← hw, hl4, hf4, ha, hv, hl3, hf3]; rfl
    simp [L52_2, u29, u30, hiI, hi, u0, u4, ld0]
    refine goT_of T1 ?_
    simp [u0, u4, ld0, ld1]
    refine goT_of T2 ?_
    simp [u4, ld0, ld1, ld2, ld3, z2, ap, stq', u30, e4]
    refine ⟨k, by omega, iN, l4, f4, acc ++ [((a : Int), v)], s, by omega, by simp [hacc, hiN], by simp [u0], by simp [u2], by simp [u4], by simp [u29], by simp, RB, VB, oB, (fun c hc => by have := nA c hc; omega), ?_, smB, hwn⟩
    show H1.next ≤ (GA.put q (cs.set 2 s)).next
    simp
    omega
end Go.Proofs.YtnomffikflfilaaGreat.E8
namespace Go.Proofs.YtnomffikflfilaaGreat.E8
open I8
open Go.Ot Go.RowKit
open R14 (ci Twos)
set_option linter.unusedSimpArgs false
set_option linter.unusedVariables false
set_option maxRecDepth 100000
theorem Rws.frm {G G' : Heap} {sz : Nat} {x : Value} {l : List (List Value)} (h : Rws G sz x l) (hb : G'.base = G.base) (hk : ∀ c, blkOf x = some c → G'.blk c = G.blk c) : Rws G' sz x l := by
  rcases h with h | ⟨b, off, c, rfl, h⟩
  · exact .inl h
  · refine .inr ⟨b, off, c, rfl, fun i hi => ?_⟩
    obtain ⟨h1, h2⟩ := h i hi
    refine ⟨h1, fun j hj => ?_⟩
    rw [load_frame hb (hk b rfl)]
    exact h2 j hj
structure Cs (G : Heap) (n0 : Nat) (y : Value) (acc : List (List In)) (ys : List Value) : Prop where
  len : ys.length = acc.length
  own : Own G 103 1 ys.length ys y
  new : ∀ c, blkOf y = some c → n0 ≤ c
  row : ∀ (i : Nat) (h : i < acc.length), ∃ w, ys[i]? = some w ∧ Rws G 6 w (acc[i].map rowI) ∧ ∀ c, blkOf w = some c → n0 ≤ c ∧ c < G.next ∧ blkOf y ≠ some c
theorem Cs.frm {G G' : Heap} {n0 : Nat} {y : Value} {acc : List (List In)} {ys : List Value} (h : Cs G n0 y acc ys) (hw : G.WF) (hb : G'.base = G.base) (hn : G.next ≤ G'.next) (hk : ∀ c, n0 ≤ c → c < G.next → G'.blk c = G.blk c) : Cs G' n0 y acc ys := by
  refine ⟨h.len, h.own.keep (B_eq hb) (fun c hc => hk c (h.new c hc) (h.own.lt hw hc)), h.new, fun i hi => ?_⟩
  obtain ⟨w, h1, h2, h3⟩ := h.row i hi
  exact ⟨w, h1, Rws.frm h2 hb (fun c hc => by obtain ⟨a, b, _⟩ := h3 c hc; exact hk c a b), fun c hc => by obtain ⟨a, b, d⟩ := h3 c hc; exact ⟨a, by omega, d⟩⟩
def codesS (nr : Int) : Nat → List Nat → Nat → List (List In) → Int × List (List In) × List Nat × Nat
  | 0, l, f, acc => (0, acc, l, f)
  | n + 1, l, f, acc =>
    if (textS l f).2.2 ≠ 0 then (((textS l f).2.2 : Int), [], (textS l f).2)
    else if (decS 256 (textS l f).1 nr).2 ≠ 0 then ((decS 256 (textS l f).1 nr).2, [], (textS l f).2)
    else codesS nr n (textS l f).2.1 (textS l f).2.2 (acc ++ [(decS 256 (textS l f).1 nr).1])
theorem textS_lt {l : List Nat} {f : Nat} (hl : ∀ c ∈ l, c < 256) : ∀ c ∈ (textS l f).1, c < 256 := by
  unfold textS
  split
  · intro c h; cases h
  · intro c h
    exact hl c ((countS_suf l f 1).mem (List.mem_of_mem_take h))
theorem textS_len (l : List Nat) (f : Nat) : (textS l f).1.length ≤ l.length := by
  unfold textS
  split
  · simp
  · have := (countS_suf l f 1).length_le
    simp only [List.length_take]; omega
abbrev zer11 : List Value := [iv 0, .slice none 0 0, .slice none 0 0, iv 0, iv 0, iv 0, iv 0, iv 0, iv 0, iv 0, .slice none 0 0]
def InvT3 (H H1 : Heap) (p q z : Nat) (x : Value) (b : List Nat) (cs : List Value) (nr : Nat) (want : Int × List (List In) × List Nat × Nat) (n : Nat) (k : Nat) (t : Tm) (G : Heap) : Prop :=
  ∃ (i : Nat) (l : List Nat) (f : Nat) (acc : List (List In)) (y : Value) (ys : List Value), i + k = n ∧ acc.length = i ∧ t 0 = ptr p ∧ t 2 = ptr z ∧ t 4 = ptr q ∧ t 85 = iv n ∧ t 86 = iv i ∧ Rn H G p x b l f ∧ Vr G q 29 11 (cs.set 10 y) ∧ Vr G z 29 11 zer11 ∧ Cs G H1.next y acc ys ∧ H1.next ≤ G.next ∧ Same H1 G [p, q] ∧ codesS nr k l f acc = want
theorem codesT {H H1 : Heap} {p q z : Nat} {x : Value} {b l : List Nat} {f n nr : Nat} {cs : List Value} {ar : Option Addr} {cr : Nat} (R : Rn H H1 p x b l f) (hbl : b.length ≤ 2000000) (hq : H.next ≤ q) (hz : H.next ≤ z) (hqz : q ≠ z) (V : Vr H1 q 29 11 cs) (Z : Vr H1 z 29 11 zer11) (hlen : cs.length = 11) (hx : cs[10]? = some (.slice none 0 0)) (hx2 : cs[2]? = some (.slice ar nr cr)) (hn : n ≤ 2000000)
    {Q : Post} {t : Tm} (t0 : t 0 = ptr p) (t2 : t 2 = ptr z) (t4 : t 4 = ptr q) (t85 : t 85 = iv n) (t86 : t 86 = iv 0)
    (hR : ∀ (t' : Tm) (G : Heap), (codesS nr n l f []).1 ≠ 0 → t' 2 = ptr z → t' 3 = iv (codesS nr n l f []).1 → Rn H G p x b (codesS nr n l f []).2.2.1 (codesS nr n l f []).2.2.2 → Vr G z 29 11 zer11 → H1.next ≤ G.next → Same H1 G [p, q] → Q .ret t' (rdy G))
    (hE : ∀ (t' : Tm) (G : Heap) (xk : Value) (ys : List Value), (codesS nr n l f []).1 = 0 → t' 0 = ptr p → t' 2 = ptr z → t' 4 = ptr q → Rn H G p x b (codesS nr n l f []).2.2.1 (codesS nr n l f []).2.2.2 → Vr G q 29 11 (cs.set 10 xk) → Vr G z 29 11 zer11 → Cs G H1.next xk (codesS nr n l f []).2.1 ys → H1.next ≤ G.next → Same H1 G [p, q] → Q (.exit 4) t' (rdy G)) : wpA Tryz.prog (.loop L52_3) Q t (rdy H1) := by
  obtain ⟨want, hwant⟩ : ∃ w, w = codesS nr n l f [] := ⟨_, rfl⟩
  rw [← hwant] at hE hR
  have hn1 := R.next
  have hql := R.wf.lt V.bq
  have hzl := R.wf.lt Z.bq
  have hqp : q ≠ p := fun e => by have := R.hp; omega
  have hzp : z ≠ p := fun e => by have := R.hp; omega
  refine loop_at (InvT3 H H1 p q z x b cs nr want n) n ?_ ?_
  · refine ⟨0, l, f, [], .slice none 0 0, [], by omega, rfl, t0, t2, t4, t85, t86, R, ?_, Z, ⟨rfl, Own.nil _ _ _, (fun c hc => by cases hc), fun i h => by cases h⟩, Nat.le_refl _, Same.refl _ _, hwant.symm⟩
    have e : cs.set 10 (.slice none 0 0) = cs := by
      rw [List.getElem?_eq_some_iff] at hx
      obtain ⟨h1, h2⟩ := hx
      rw [← h2, List.set_getElem_self]
    rw [e]; exact V
  rintro k t1 G ⟨i, l2, f2, acc, y, ys, hik, hacc, u0, u2, u4, u85, u86, R2, V2, Z2, C2, hnG, sm, hw⟩
  cases k with
  | zero =>
    have ei : i = n := by omega
    subst ei
    have hw2 : want = (0, acc, l2, f2) := hw.symm
    rw [hw2] at hE
    simp [L52_3, u85, u86]
    exact hE _ _ y ys rfl (by simp [u0]) (by simp [u2]) (by simp [u4]) R2 V2 Z2 C2 hnG sm
  | succ k =>
    have hi : i < n := by omega
    have hiI : (i : Int) < (n : Int) := by omega
    have e4 : IntKind.i64.wrap ((i : Int) + 1) = ((i + 1 : Nat) : Int) := by rw [w64 _ (by omega)]; omega
    obtain ⟨iN, hiN⟩ : ∃ z : Nat, z = i + 1 := ⟨_, rfl⟩
    rw [← hiN] at e4
    have T1 := rtext_T R2.rs
    have R3 := R2.step (textS l2 f2).2.2 (textS_suf l2 f2)
    have hlt := textS_lt (f := f2) R2.rs.lt
    have htl : (textS l2 f2).1.length ≤ 2000000 := Nat.le_trans (textS_len l2 f2) (Nat.le_trans R2.rs.suf.length_le hbl)
    rw [show codesS nr (k + 1) l2 f2 acc = if (textS l2 f2).2.2 ≠ 0 then (((textS l2 f2).2.2 : Int), [], (textS l2 f2).2) else if (decS 256 (textS l2 f2).1 nr).2 ≠ 0 then ((decS 256 (textS l2 f2).1 nr).2, [], (textS l2 f2).2) else codesS nr k (textS l2 f2).2.1 (textS l2 f2).2.2 (acc ++ [(decS 256 (textS l2 f2).1 nr).1]) from rfl] at hw
    obtain ⟨tx, htx⟩ : ∃ a, a = (textS l2 f2).1 := ⟨_, rfl⟩
    obtain ⟨l3, hl3⟩ : ∃ l3, l3 = (textS l2 f2).2.1 := ⟨_, rfl⟩
    obtain ⟨f3, hf3⟩ : ∃ f3, f3 = (textS l2 f2).2.2 := ⟨_, rfl⟩
    have ht2 : (textS l2 f2).2 = (l3, f3) := by rw [hl3, hf3]
    rw [← htx, ← hl3, ← hf3, ht2] at hw
    rw [← htx, ← hl3, ← hf3] at T1
    rw [← htx] at hlt htl
    rw [← hl3, ← hf3] at R3
    obtain ⟨G1, hG1⟩ : ∃ G1, G1 = G.put p (rsC x b l3 f3) := ⟨_, rfl⟩
    rw [← hG1] at T1 R3
    have T2 := fail_S R3.rs
    have V3 : Vr G1 q 29 11 (cs.set 10 y) := by rw [hG1]; exact V2.beside hqp _
    have Z3 : Vr G1 z 29 11 zer11 := by rw [hG1]; exact Z2.beside hzp _
    have nG1 : G1.next = G.next := by rw [hG1]; rfl
    have sm1 : Same H1 G1 [p, q] := fun c hc hcn => by
      have h1 : c ≠ p ∧ c ≠ q := by simpa using hcn
      rw [hG1]; simp [h1.1]
      exact sm c hc hcn
    have C3 : Cs G1 H1.next y acc ys := C2.frm R2.wf (by rw [hG1]; rfl) (by omega) (fun c h1 h2 => by
      have := R.hp
      rw [hG1]; simp [show c ≠ p by omega])
    have zst : ∀ {G' : Heap}, Vr G' z 29 11 zer11 → sStore G' 11 (.pointer (some ⟨z, 0, none⟩)) (.agg zer11.toArray) = some G' := fun {G'} h => by
      have := h.storeA (m := 11) (by decide) zer11 rfl rfl
      rwa [h.same] at this
    obtain ⟨sz, hsz⟩ := sb_strB tx hlt
    obtain ⟨s, hs⟩ : ∃ s, s = strB tx := ⟨_, rfl⟩
    rw [← hs] at T1 sz hsz
    by_cases hf : f3 = 0
    case neg =>
      rw [if_pos hf] at hw
      have hw2 : want = ((f3 : Int), [], l3, f3) := hw.symm
      rw [hw2] at hR
      have hfI : ((f3 : Int) != 0) = true := by simp [hf]
      have zs3 := zst Z3
      simp [L52_3, u85, u86, hiI, hi, u0]
      refine goT_of T1 ?_
      simp [u0]
      refine goT_of T2 ?_
      simp [hf, hfI, u2, zs3]
      exact hR _ _ (by simp; omega) (by simp [u2]) (by simp) R3 Z3 (by omega) sm1
    rw [if_neg (by simpa using hf)] at hw
    subst hf
    obtain ⟨G2, hG2⟩ : ∃ G2, G2 = G1.new 5 1 (bytesV s) := ⟨_, rfl⟩
    have R4 : Rn H G2 p x b l3 0 := by rw [hG2]; exact R3.new _ _ _
    have bsB : Bs G2 (.slice (some ⟨G1.next, 0, none⟩) s.size 0) tx := by
      refine own_bs (n := tx.length) ?_
      rw [hsz]
      refine Own.mk (by simp [bc_len]) (by rw [hG2]; simpa using R3.wf.next_ge) ?_
      rw [hG2, bytesV_sb, sz]
      simp
    have nG2 : G2.next = G.next + 1 := by rw [hG2]; simp [nG1]
    have tb : sToBytes G1 5 (.string s) = some (.slice (some ⟨G1.next, 0, none⟩) s.size 0, G2) := by
      simp only [sToBytes]
      rw [if_pos (by omega), hG2]
    have V4 : Vr G2 q 29 11 (cs.set 10 y) := by rw [hG2]; exact V3.new R3.wf _ _ _
    have Z4 : Vr G2 z 29 11 zer11 := by rw [hG2]; exact Z3.new R3.wf _ _ _
    have C4 : Cs G2 H1.next y acc ys := C3.frm R3.wf (by rw [hG2]; rfl) (by omega) (fun c h1 h2 => by rw [hG2]; simp [show c ≠ G1.next by omega])
    have sm2 : Same H1 G2 [p, q] := fun c hc hcn => by
      rw [hG2]; simp [show c ≠ G1.next by omega]
      exact sm1 c hc hcn
    have ld2 : G2.load ⟨q, 2, none⟩ = some (.slice ar nr cr) := by rw [V4.load 2, List.getElem?_set_ne (by decide)]; exact hx2
    obtain ⟨v5, G3, T3, w, rfl, rw5, s5, nw5⟩ := decode_T R4.wf bsB hlt htl (nr : Int)
    have R5 := R4.call T3 s5
    have nG3 := T3.grow.next
    have V5 : Vr G3 q 29 11 (cs.set 10 y) := V4.keep T3.1 (s5 q (by omega) (by simp))
    have Z5 : Vr G3 z 29 11 zer11 := Z4.keep T3.1 (s5 z (by omega) (by simp))
    have C5 : Cs G3 H1.next y acc ys := C4.frm R4.wf T3.1 nG3 (fun c h1 h2 => s5 c h2 (by simp))
    have sm3 : Same H1 G3 [p, q] := fun c hc hcn => (s5 c (by omega) (by simp)).trans (sm2 c hc hcn)
    obtain ⟨D, hD⟩ : ∃ D, D = decS 256 tx nr := ⟨_, rfl⟩
    rw [← hD] at T3 rw5 hw
    obtain ⟨wa, wc, hwe⟩ := rw5.len
    have nwt : notTup w = true := by rw [hwe]; rfl
    have cw : w.cells = #[w] := by rw [hwe]; rfl
    by_cases hd : D.2 = 0
    case neg =>
      rw [if_pos hd] at hw
      have hw2 : want = (D.2, [], l3, 0) := hw.symm
      rw [hw2] at hR
      have hdI : (D.2 != 0) = true := by simp [hd]
      have zs5 := zst Z5
      simp [L52_3, u85, u86, hiI, hi, u0]
      refine goT_of T1 ?_
      simp [u0]
      refine goT_of T2 ?_
      simp [u4, tb, ld2]
      refine goT_of T3 ?_
      simp [nwt, hdI, u2, zs5]
      exact hR _ _ hd (by simp [u2]) (by simp) R5 Z5 (by omega) sm3
    rw [if_neg (by simpa using hd)] at hw
    have hdI : (D.2 != 0) = false := by simp [hd]
    obtain ⟨aA, GA, ap, RA, oA, nA, kA, mA⟩ := pushR (bytes := 24) R5 C5.own (fun c hc => by have := C5.new c hc; omega) [w] rfl (by decide) (by rw [C5.len]; omega)
    have hyq : blkOf y ≠ some q := fun e => by have := C5.new q e; omega
    have hyz : blkOf y ≠ some z := fun e => by have := C5.new z e; omega
    have VA : Vr GA q 29 11 (cs.set 10 y) := V5.keep (RA.base.trans R5.base.symm) (kA q (by omega) hyq)
    have ZA : Vr GA z 29 11 zer11 := Z5.keep (RA.base.trans R5.base.symm) (kA z (by omega) hyz)
    obtain ⟨s', hs'⟩ : ∃ s, s = Value.slice (some aA) (ys.length + 1) 0 := ⟨_, rfl⟩
    rw [← hs'] at ap oA nA
    have stq : GA.store ⟨q, 10, none⟩ s' = some (GA.put q (cs.set 10 s')) := by rw [VA.store 10 s' (by simp; omega), List.set_set]
    have stq' : sStore GA 1 (.pointer (some ⟨q, 10, none⟩)) s' = some (GA.put q (cs.set 10 s')) := by rw [← stq, hs']; simp
    have ld3 : G3.load ⟨q, 10, none⟩ = some y := by rw [V5.load 10]; simp [hlen]
    have z1 : zerosA [Value.slice none 0 0] 1 = [Value.slice none 0 0] := rfl
    have RB := RA.put hq (cs.set 10 s')
    have VB : Vr (GA.put q (cs.set 10 s')) q 29 11 (cs.set 10 s') := VA.put _
    have ZB : Vr (GA.put q (cs.set 10 s')) z 29 11 zer11 := ZA.beside (Ne.symm hqz) _
    have smB : Same H1 (GA.put q (cs.set 10 s')) [p, q] := fun c hc hcn => by
      have h1 : c ≠ p ∧ c ≠ q := by simpa using hcn
      have h2 : blkOf y ≠ some c := fun e => by have := C5.new c e; omega
      simp only [blk_put, if_neg h1.2]
      rw [kA c (by omega) h2]
      exact sm3 c hc hcn
    have CB : Cs (GA.put q (cs.set 10 s')) H1.next s' (acc ++ [D.1]) (ys ++ [w]) := by
      have hbB : (GA.put q (cs.set 10 s')).base = G3.base := RA.base.trans R5.base.symm
      have keepW : ∀ (w' : Value) (rows : List (List Value)), Rws G3 6 w' rows → (∀ c, blkOf w' = some c → H1.next ≤ c ∧ c < G3.next ∧ blkOf y ≠ some c) → Rws (GA.put q (cs.set 10 s')) 6 w' rows := fun w' rows h hh => Rws.frm h hbB (fun c hc => by
        obtain ⟨a1, a2, a3⟩ := hh c hc
        simp only [blk_put, if_neg (show c ≠ q by omega)]
        exact kA c a2 a3)
      have hwn : ∀ c, blkOf w = some c → H1.next ≤ c ∧ c < G3.next ∧ blkOf y ≠ some c := fun c hc => by
        obtain ⟨a1, a2⟩ := nw5 c hc
        refine ⟨by omega, a2, fun e => ?_⟩
        have := C4.own.lt R4.wf e
        omega
      refine ⟨by simp [C5.len], ?_, (fun c hc => by have := nA c hc; omega), fun j hj => ?_⟩
      · have o2 : Own GA 103 1 (ys ++ [w]).length (ys ++ [w]) s' := by simpa using oA
        exact o2.keep (B_eq rfl) (fun c hc => by have := nA c hc; simp [show c ≠ q by omega])
      · rcases Nat.lt_or_ge j acc.length with h | h
        · obtain ⟨w', h1, h2, h3⟩ := C5.row j h
          refine ⟨w', ?_, ?_, fun c hc => ?_⟩
          · rw [List.getElem?_append_left (by rw [C5.len]; exact h)]; exact h1
          · rw [List.getElem_append_left h]; exact keepW _ _ h2 h3
          · obtain ⟨a1, a2, a3⟩ := h3 c hc
            refine ⟨a1, by simp; omega, fun e => ?_⟩
            have := nA c e; omega
        · have hj2 : j = acc.length := by simp at hj; omega
          subst hj2
          refine ⟨w, ?_, ?_, fun c hc => ?_⟩
          · rw [List.getElem?_append_right (by rw [C5.len]; exact Nat.le_refl _), C5.len]; simp
          · rw [List.getElem_append_right (Nat.le_refl _)]
            simp only [Nat.sub_self, List.getElem_cons_zero]
            exact keepW _ _ rw5 hwn
          · obtain ⟨a1, a2, a3⟩ := hwn c hc
            refine ⟨a1, by simp; omega, fun e => ?_⟩
            have := nA c e; omega
    simp [L52_3, u85, u86, hiI, hi, u0]
    refine goT_of T1 ?_
    simp [u0]
    refine goT_of T2 ?_
    simp [u4, tb, ld2]
    refine goT_of T3 ?_
    simp [nwt, cw, hdI, u4, ld3, z1, ap, stq', u86, e4]
    refine ⟨k, by omega, iN, l3, 0, acc ++ [D.1], s', ys ++ [w], by omega, by simp [hacc, hiN], by simp [u0], by simp [u2], by simp [u4], by simp [u85], by simp, RB, VB, ZB, CB, ?_, smB, hw⟩
    show H1.next ≤ (GA.put q (cs.set 10 s')).next
    simp
    omega
end Go.Proofs.YtnomffikflfilaaGreat.E8
