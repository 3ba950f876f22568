/-
  Chapter 26: a job laid down. Chapter 26: a job laid down; a play packed. Chapter 26: a play packed.
-/
import Derived.Test.YtnomffikflfilaaGreatSeatF
namespace Go.Proofs.YtnomffikflfilaaGreat
open Go.Ot Go.RowKit
open E8 (WR AF encU zz uint_T int_T text_T flag_T bytes_T encS encode_T Off Off.af AF.beside encU_len zz_lt encU_b strB sb)
open R14 (Twos)
set_option linter.unusedSimpArgs false
set_option linter.unusedVariables false
def encCs (l : List (Int × Int)) : List Nat := l.flatMap (fun c => encU c.1.toNat ++ encU (zz c.2))
theorem encCs_len (l : List (Int × Int)) (h : ∀ c ∈ l, 0 ≤ c.1 ∧ c.1 ≤ 1000000 ∧ okW c.2) : (encCs l).length ≤ 20 * l.length := flatMap_len l (fun c hc => by
  obtain ⟨h0, h1, h2⟩ := h c hc
  have a := encU_len 9 c.1.toNat (by omega)
  have hz := zz_lt h2
  have b := encU_len 9 (zz c.2) (by omega)
  rw [List.length_append]
  omega)
def InvC1 (H : Heap) (p : Nat) (x xc : Value) (bs : List Nat) (l : List (Int × Int)) (t0 : Tm) (k : Nat) (t : Tm) (H1 : Heap) : Prop :=
  ∃ (i : Nat) (x' : Value), i + k = l.length ∧ t 0 = ptr p ∧ t 3 = t0 3 ∧ t 24 = xc ∧ t 25 = iv l.length ∧ t 26 = iv i ∧ AF H H1 p x (bs ++ encCs (l.take i)) x'
theorem cells_loop {H0 H : Heap} (hw0 : H0.WF) {p : Nat} {bs : List Nat} {x : Value} (P : PW H0 H p bs x) {xc : Value} {l : List (Int × Int)} (hx : Twos H0 xc l) (hn : ∀ c ∈ l, 0 ≤ c.1 ∧ c.1 ≤ 1000000 ∧ okW c.2) (hl : l.length ≤ 1000) (hbl : bs.length ≤ 1000000000)
    {Q : Post} {t : Tm} (t0 : t 0 = ptr p) (t24 : t 24 = xc) (t25 : t 25 = iv l.length) (t26 : t 26 = iv 0)
    (hE : ∀ (t' : Tm) (H1 : Heap) (x' : Value), t' 0 = ptr p → t' 3 = t 3 → AF H H1 p x (bs ++ encCs l) x' → Q (.exit 0) t' (rdy H1)) : wpA Tryz.prog (.loop L34_1) Q t (rdy H) := by
  have hw := P.on.wf
  refine loop_at (InvC1 H p x xc bs l t) l.length ?_ ?_
  · exact ⟨0, x, by omega, t0, rfl, t24, t25, t26, by simpa [encCs] using Aft.refl hw P.wr⟩
  rintro k t1 H1 ⟨i, x1, hik, u0, u3, u24, u25, u26, a1⟩
  have P1 := P.af a1
  have w1 := a1.wf
  have hel := encCs_len (l.take i) (fun c hc => hn c (List.mem_of_mem_take hc))
  have htl : (l.take i).length ≤ 1000 := by rw [List.length_take]; omega
  have hwl : (bs ++ encCs (l.take i)).length ≤ 1000100000 := by rw [List.length_append]; omega
  cases k with
  | zero =>
    have ei : i = l.length := by omega
    rw [ei, List.take_length] at a1
    simp [L34_1, u25, u26, ei]
    exact hE _ _ x1 (by simp [u0]) (by simp [u3]) a1
  | succ k =>
    have hi : i < l.length := by omega
    have hiI : (i : Int) < (l.length : Int) := by omega
    have e4 : IntKind.i64.wrap ((i : Int) + 1) = ((i + 1 : Nat) : Int) := by rw [w64 _ (by omega)]; omega
    obtain ⟨iN, hiN⟩ : ∃ z : Nat, z = i + 1 := ⟨_, rfl⟩
    rw [← hiN] at e4
    obtain ⟨e, he⟩ : ∃ e, e = l[i] := ⟨_, rfl⟩
    obtain ⟨n0, n1, n2⟩ := hn e (by rw [he]; exact List.getElem_mem hi)
    obtain ⟨b, off, c, hxb, ldx, _⟩ := twos_rws (hx.keep hw0 P1.on.base P1.on.keep) hi
    rw [← he] at ldx
    have u24' := u24.trans hxb
    have st := new_storeA w1 98 2 [iv 0, iv 0] [iv e.1, iv e.2] rfl rfl (by decide)
    obtain ⟨s, hs⟩ : ∃ s, s = H1.next := ⟨_, rfl⟩
    obtain ⟨H2, hH2⟩ : ∃ H2, H2 = H1.new 98 2 [iv e.1, iv e.2] := ⟨_, rfl⟩
    have on2 : On H1 H2 := by rw [hH2]; exact (On.refl w1).new _ _ _
    have VE : Vr H2 s 98 2 [iv e.1, iv e.2] := by rw [hH2, hs]; exact Vr.mk' w1 _ _ _
    rw [← hH2, ← hs] at st
    have w2 := on2.wf
    have a2 := AF.on a1 on2
    have offs : Off H2 p x1 s := ⟨w2.lt VE.bq, by have := w1.lt a1.wr.bp; omega, fun hh => by have := a1.wr.own.lt w1 hh; omega⟩
    obtain ⟨m, hm0⟩ : ∃ m : Nat, e.1 = (m : Int) := ⟨e.1.toNat, by omega⟩
    have em : e.1.toNat = m := by omega
    have eu : IntKind.u64.wrap e.1 = (m : Int) := by rw [hm0]; exact wu64 _ (by omega)
    have f0 : H2.load ⟨s, 0, none⟩ = some (iv e.1) := VE.load 0
    obtain ⟨v3, H3, T3, x3, a3⟩ := uint_T w2 a2.wr (n := m) (by omega) (by omega)
    have V3 := Vr.af VE offs a3
    have f1 : H3.load ⟨s, 1, none⟩ = some (iv e.2) := V3.load 1
    have hul := encU_len 9 m (by omega)
    have hwl3 : (bs ++ encCs (l.take i) ++ encU m).length ≤ 1000100010 := by rw [List.length_append]; omega
    obtain ⟨v4, H4, T4, x4, a4⟩ := int_T a3.wf a3.wr (n := e.2) n2 (by omega)
    simp [L34_1, u25, u26, hi, hiI, u24', ldx, st, ← hs, f0, u0, eu]
    refine goT_of T3 ?_
    simp [u0, f1]
    refine goT_of T4 ?_
    simp [u26, e4]
    refine ⟨k, by omega, iN, x4, by omega, by simp [u0], by simp [u3], by simp [u24, ← hxb], by simp [u25], by simp, ?_⟩
    have e5 : encCs (l.take iN) = encCs (l.take i) ++ (encU m ++ encU (zz e.2)) := by
      rw [hiN]
      unfold encCs
      rw [flatMap_take _ _ hi, ← he, em]
    rw [e5, ← List.append_assoc, ← List.append_assoc]
    exact a2.trans (a3.trans a4)
def InvC2 (H : Heap) (p : Nat) (x xc : Value) (bs : List Nat) (l : List (Int × Int)) (t0 : Tm) (k : Nat) (t : Tm) (H1 : Heap) : Prop :=
  ∃ (i : Nat) (x' : Value), i + k = l.length ∧ t 0 = ptr p ∧ t 3 = t0 3 ∧ t 47 = xc ∧ t 48 = iv l.length ∧ t 49 = iv i ∧ AF H H1 p x (bs ++ encCs (l.take i)) x'
theorem reds_loop {H0 H : Heap} (hw0 : H0.WF) {p : Nat} {bs : List Nat} {x : Value} (P : PW H0 H p bs x) {xc : Value} {l : List (Int × Int)} (hx : Twos H0 xc l) (hn : ∀ c ∈ l, 0 ≤ c.1 ∧ c.1 ≤ 1000000 ∧ okW c.2) (hl : l.length ≤ 1000) (hbl : bs.length ≤ 1000000000)
    {Q : Post} {t : Tm} (t0 : t 0 = ptr p) (t47 : t 47 = xc) (t48 : t 48 = iv l.length) (t49 : t 49 = iv 0)
    (hE : ∀ (t' : Tm) (H1 : Heap) (x' : Value), t' 0 = ptr p → t' 3 = t 3 → AF H H1 p x (bs ++ encCs l) x' → Q (.exit 2) t' (rdy H1)) : wpA Tryz.prog (.loop L34_2) Q t (rdy H) := by
  have hw := P.on.wf
  refine loop_at (InvC2 H p x xc bs l t) l.length ?_ ?_
  · exact ⟨0, x, by omega, t0, rfl, t47, t48, t49, by simpa [encCs] using Aft.refl hw P.wr⟩
  rintro k t1 H1 ⟨i, x1, hik, u0, u3, u47, u48, u49, a1⟩
  have P1 := P.af a1
  have w1 := a1.wf
  have hel := encCs_len (l.take i) (fun c hc => hn c (List.mem_of_mem_take hc))
  have htl : (l.take i).length ≤ 1000 := by rw [List.length_take]; omega
  have hwl : (bs ++ encCs (l.take i)).length ≤ 1000100000 := by rw [List.length_append]; omega
  cases k with
  | zero =>
    have ei : i = l.length := by omega
    rw [ei, List.take_length] at a1
    simp [L34_2, u48, u49, ei]
    exact hE _ _ x1 (by simp [u0]) (by simp [u3]) a1
  | succ k =>
    have hi : i < l.length := by omega
    have hiI : (i : Int) < (l.length : Int) := by omega
    have e4 : IntKind.i64.wrap ((i : Int) + 1) = ((i + 1 : Nat) : Int) := by rw [w64 _ (by omega)]; omega
    obtain ⟨iN, hiN⟩ : ∃ z : Nat, z = i + 1 := ⟨_, rfl⟩
    rw [← hiN] at e4
    obtain ⟨e, he⟩ : ∃ e, e = l[i] := ⟨_, rfl⟩
    obtain ⟨n0, n1, n2⟩ := hn e (by rw [he]; exact List.getElem_mem hi)
    obtain ⟨b, off, c, hxb, ldx, _⟩ := twos_rws (hx.keep hw0 P1.on.base P1.on.keep) hi
    rw [← he] at ldx
    have u47' := u47.trans hxb
    have st := new_storeA w1 101 2 [iv 0, iv 0] [iv e.1, iv e.2] rfl rfl (by decide)
    obtain ⟨s, hs⟩ : ∃ s, s = H1.next := ⟨_, rfl⟩
    obtain ⟨H2, hH2⟩ : ∃ H2, H2 = H1.new 101 2 [iv e.1, iv e.2] := ⟨_, rfl⟩
    have on2 : On H1 H2 := by rw [hH2]; exact (On.refl w1).new _ _ _
    have VE : Vr H2 s 101 2 [iv e.1, iv e.2] := by rw [hH2, hs]; exact Vr.mk' w1 _ _ _
    rw [← hH2, ← hs] at st
    have w2 := on2.wf
    have a2 := AF.on a1 on2
    have offs : Off H2 p x1 s := ⟨w2.lt VE.bq, by have := w1.lt a1.wr.bp; omega, fun hh => by have := a1.wr.own.lt w1 hh; omega⟩
    obtain ⟨m, hm0⟩ : ∃ m : Nat, e.1 = (m : Int) := ⟨e.1.toNat, by omega⟩
    have em : e.1.toNat = m := by omega
    have eu : IntKind.u64.wrap e.1 = (m : Int) := by rw [hm0]; exact wu64 _ (by omega)
    have f0 : H2.load ⟨s, 0, none⟩ = some (iv e.1) := VE.load 0
    obtain ⟨v3, H3, T3, x3, a3⟩ := uint_T w2 a2.wr (n := m) (by omega) (by omega)
    have V3 := Vr.af VE offs a3
    have f1 : H3.load ⟨s, 1, none⟩ = some (iv e.2) := V3.load 1
    have hul := encU_len 9 m (by omega)
    have hwl3 : (bs ++ encCs (l.take i) ++ encU m).length ≤ 1000100010 := by rw [List.length_append]; omega
    obtain ⟨v4, H4, T4, x4, a4⟩ := int_T a3.wf a3.wr (n := e.2) n2 (by omega)
    simp [L34_2, u48, u49, hi, hiI, u47', ldx, st, ← hs, f0, u0, eu]
    refine goT_of T3 ?_
    simp [u0, f1]
    refine goT_of T4 ?_
    simp [u49, e4]
    refine ⟨k, by omega, iN, x4, by omega, by simp [u0], by simp [u3], by simp [u47, ← hxb], by simp [u48], by simp, ?_⟩
    have e5 : encCs (l.take iN) = encCs (l.take i) ++ (encU m ++ encU (zz e.2)) := by
      rw [hiN]
      unfold encCs
      rw [flatMap_take _ _ hi, ← he, em]
    rw [e5, ← List.append_assoc, ← List.append_assoc]
    exact a2.trans (a3.trans a4)
def InvI5 (H : Heap) (p y : Nat) (x : Value) (bs : List Nat) (l : List Int) (k : Nat) (t : Tm) (H1 : Heap) : Prop :=
  ∃ (i : Nat) (x' : Value), i + k = l.length ∧ t 0 = ptr p ∧ t 11 = .slice (some ⟨y, 0, none⟩) l.length 0 ∧ t 12 = iv l.length ∧ t 13 = iv i ∧ AF H H1 p x (bs ++ (l.take i).flatMap (fun n => encU (zz n))) x'
theorem ints_E {H : Heap} (hw : H.WF) {p : Nat} {bs : List Nat} {x : Value} (W : WR H p bs x) (hbl : bs.length ≤ 10000000000) {y : Nat} {l : List Int} (vy : Vr H y 2 1 (R14.ci l)) (offy : Off H p x y) (hn : ∀ n ∈ l, okW n) (hl : l.length ≤ 1000) :
    ∃ v H', T Tryz.prog 73 [ptr p, .slice (some ⟨y, 0, none⟩) l.length 0] H v H' ∧ ∃ x', AF H H' p x (bs ++ encU l.length ++ l.flatMap (fun n => encU (zz n))) x' := by
  refine T_by hm light73 ?_
  have hul := encU_len 9 l.length (by omega)
  have e1 : IntKind.u64.wrap (l.length : Int) = (l.length : Int) := wu64 _ (by omega)
  obtain ⟨v1, H1, T1, x1, a1⟩ := uint_T hw W (n := l.length) (by omega) (by omega)
  obtain ⟨b1, hb1⟩ : ∃ b1, b1 = bs ++ encU l.length := ⟨_, rfl⟩
  rw [← hb1] at a1 ⊢
  have hb1l : b1.length ≤ 10000000010 := by rw [hb1, List.length_append]; omega
  simp [L73, e1]
  refine goT_of T1 ?_
  simp
  refine loop_at (InvI5 H p y x b1 l) l.length ?_ ?_
  · exact ⟨0, x1, by omega, by simp, by simp, by simp, by simp, by simpa using a1⟩
  rintro k t H2 ⟨i, x2, hik, t0, t11, t12, t13, a2⟩
  have hfl := flatMap_len (k := 10) (l.take i) (g := fun n => encU (zz n)) (fun n hn2 => encU_len 9 _ (by have := zz_lt (hn n (List.mem_of_mem_take hn2)); omega))
  have htl : (l.take i).length ≤ 1000 := by rw [List.length_take]; omega
  have hwl : (b1 ++ (l.take i).flatMap (fun n => encU (zz n))).length ≤ 10000100000 := by rw [List.length_append]; omega
  cases k with
  | zero =>
    have ei : i = l.length := by omega
    rw [ei, List.take_length] at a2
    simp [L73_1, t12, t13, ei]
    exact ⟨x2, a2⟩
  | succ k =>
    have hi : i < l.length := by omega
    have hiI : (i : Int) < (l.length : Int) := by omega
    have e4 : IntKind.i64.wrap ((i : Int) + 1) = ((i + 1 : Nat) : Int) := by rw [w64 _ (by omega)]; omega
    obtain ⟨iN, hiN⟩ : ∃ z : Nat, z = i + 1 := ⟨_, rfl⟩
    rw [← hiN] at e4
    have v2 := Vr.af vy offy a2
    have ld : H2.load ⟨y, i, none⟩ = some (iv l[i]) := by rw [v2.load i]; simp [R14.ci, hi]
    obtain ⟨v3, H3, T3, x3, a3⟩ := int_T a2.wf a2.wr (n := l[i]) (hn _ (List.getElem_mem hi)) (by omega)
    simp [L73_1, t12, t13, hi, hiI, t11, ld, t0]
    refine goT_of T3 ?_
    simp [t13, e4]
    refine ⟨k, by omega, iN, x3, by omega, by simp [t0], by simp [t11], by simp [t12], by simp, ?_⟩
    rw [hiN, flatMap_take _ _ hi, ← List.append_assoc]
    exact a2.trans a3
def toE (x : I8.In) : I8.In := ⟨x.kind, x.op, x.a, x.b, x.c, x.k⟩
theorem toE_rows (l : List I8.In) : (l.map toE).map I8.rowI = l.map I8.rowI := by
  rw [List.map_map]
  rfl
def codeB (cells : Int) (c : List I8.In) : List Nat := encS (c.map toE) cells
theorem codeB_lt (cells : Int) (c : List I8.In) : ∀ b ∈ codeB cells c, b < 256 := by
  unfold codeB encS
  split
  · intro b hb
    unfold E8.encV at hb
    rcases List.mem_append.1 hb with h | h
    · exact encU_b _ b h
    · unfold E8.encAll at h
      obtain ⟨y, hy, h⟩ := List.mem_flatMap.1 h
      unfold E8.encIns at h
      rcases List.mem_append.1 h with h | h
      · rcases List.mem_append.1 h with h | h
        · exact encU_b _ b h
        · unfold E8.encPs at h
          obtain ⟨q, hq, h⟩ := List.mem_flatMap.1 h
          unfold E8.encP at h
          split at h
          · exact encU_b _ b h
          · cases h
      · split at h
        · exact encU_b _ b h
        · cases h
  · intro b hb; cases hb
theorem codeB_len (cells : Int) (c : List I8.In) (hk : ∀ a ∈ c, I8.okI a.k) : (codeB cells c).length ≤ 36010 := by
  unfold codeB encS
  split
  · rename_i h
    obtain ⟨h1, h2, h3⟩ := E8.check_ok h
    have hl : (c.map toE).length = c.length := List.length_map _
    have h4 := E8.encAll_len (l := c.map toE) (cells := cells) (long := (c.map toE).length) (fun y hy => ⟨h1 y hy, by
      obtain ⟨z, hz, rfl⟩ := List.mem_map.1 hy
      exact hk z hz⟩)
    have h5 := encU_len 9 (c.map toE).length (by omega)
    unfold E8.encV
    rw [List.length_append]
    omega
  · simp
theorem sb_strB (l : List Nat) (h : ∀ b ∈ l, b < 256) : sb (strB l) = l ∧ (strB l).size = l.length := by
  have e : (strB l).data.toList = l.map UInt8.ofNat := by
    have := E8.strB_toList l
    rwa [ByteArray.toList_eq] at this
  have e1 : sb (strB l) = l := by
    unfold sb
    rw [e, List.map_map]
    refine (List.map_congr_left (fun b hb => ?_)).trans (List.map_id l)
    have := h b hb
    simp only [Function.comp, id, UInt8.toNat_ofNat']
    omega
  refine ⟨e1, ?_⟩
  rw [← E8.sb_len, e1]
def encKs (cells : Int) (l : List (List I8.In)) : List Nat := l.flatMap (fun c => encU (codeB cells c).length ++ codeB cells c)
def InvC3 (H : Heap) (p j : Nat) (x xk : Value) (bs : List Nat) (cells : Int) (l : List (List I8.In)) (k : Nat) (t : Tm) (H1 : Heap) : Prop :=
  ∃ (i : Nat) (x' : Value), i + k = l.length ∧ t 0 = ptr p ∧ t 3 = ptr j ∧ t 99 = xk ∧ t 100 = iv l.length ∧ t 101 = iv i ∧ AF H H1 p x (bs ++ encKs cells (l.take i)) x'
theorem codes_loop {H0 H : Heap} (hw0 : H0.WF) {p : Nat} {bs : List Nat} {x : Value} (P : PW H0 H p bs x) {xk : Value} {l : List (List I8.In)} (hx : Cds H0 xk l) (hk : ∀ c ∈ l, ∀ a ∈ c, I8.okI a.k) (hl : l.length ≤ 50) (hbl : bs.length ≤ 1000000000) {j n : Nat} {a : Option Addr} {cr : Nat} {cs : List Value} (vj : Vr H j 29 11 cs) (offj : Off H p x j) (hc2 : cs[2]? = some (.slice a n cr))
    {Q : Post} {t : Tm} (t0 : t 0 = ptr p) (t3 : t 3 = ptr j) (t99 : t 99 = xk) (t100 : t 100 = iv l.length) (t101 : t 101 = iv 0)
    (hE : ∀ (t' : Tm) (H1 : Heap) (x' : Value), AF H H1 p x (bs ++ encKs n l) x' → Q (.exit 4) t' (rdy H1)) : wpA Tryz.prog (.loop L34_3) Q t (rdy H) := by
  have hw := P.on.wf
  refine loop_at (InvC3 H p j x xk bs n l) l.length ?_ ?_
  · exact ⟨0, x, by omega, t0, t3, t99, t100, t101, by simpa [encKs] using Aft.refl hw P.wr⟩
  rintro k t1 H1 ⟨i, x1, hik, u0, u3, u99, u100, u101, a1⟩
  have P1 := P.af a1
  have w1 := a1.wf
  have hel := flatMap_len (k := 36020) (l.take i) (g := fun c => encU (codeB n c).length ++ codeB n c) (fun c hc => by
    have h1 := codeB_len n c (hk c (List.mem_of_mem_take hc))
    have h2 := encU_len 9 (codeB n c).length (by omega)
    rw [List.length_append]; omega)
  have htl : (l.take i).length ≤ 50 := by rw [List.length_take]; omega
  have hwl : (bs ++ encKs n (l.take i)).length ≤ 1010000000 := by unfold encKs; rw [List.length_append]; omega
  cases k with
  | zero =>
    have ei : i = l.length := by omega
    rw [ei, List.take_length] at a1
    simp [L34_3, u100, u101, ei]
    exact hE _ _ x1 a1
  | succ k =>
    have hi : i < l.length := by omega
    have hiI : (i : Int) < (l.length : Int) := by omega
    have e4 : IntKind.i64.wrap ((i : Int) + 1) = ((i + 1 : Nat) : Int) := by rw [w64 _ (by omega)]; omega
    obtain ⟨iN, hiN⟩ : ∃ z : Nat, z = i + 1 := ⟨_, rfl⟩
    rw [← hiN] at e4
    obtain ⟨e, he⟩ : ∃ e, e = l[i] := ⟨_, rfl⟩
    have hem : e ∈ l := by rw [he]; exact List.getElem_mem hi
    obtain ⟨b, off, c, y, hxb, ldx, hy⟩ := (hx.on hw0 P1.on).at hi
    rw [← he] at hy
    have u99' := u99.trans hxb
    have v1 := Vr.af vj offj a1
    have l2 : H1.load ⟨j, 2, none⟩ = some (.slice a n cr) := by rw [v1.load 2, hc2]
    have hyE : Rws H1 6 y ((e.map toE).map I8.rowI) := by rw [toE_rows]; exact hy
    obtain ⟨v2, H2, T2, z, rfl, g2⟩ := encode_T w1 hyE (fun q hq => by
      obtain ⟨q', hq', rfl⟩ := List.mem_map.1 hq
      exact hk e hem q' hq') (n : Int)
    have on2 : On H1 H2 := ⟨g2.wf, g2.base, g2.next, E8.OG.olds g2⟩
    have hcl := codeB_len n e (hk e hem)
    have hlt := codeB_lt n e
    have g2' : E8.OG H1 H2 (.slice none 0 0) (codeB n e) z := g2
    have bz : E8.Bs H2 z (codeB n e) := E8.own_bs g2'.own
    have ts := E8.toStr_bs bz
    obtain ⟨s1, s2⟩ := sb_strB (codeB n e) hlt
    have a2 := AF.on a1 on2
    obtain ⟨za, zc, hze⟩ := bz.len
    obtain ⟨v3, H3, T3, x3, a3⟩ := text_T on2.wf a2.wr (strB (codeB n e)) (by omega) (by rw [s2]; omega)
    rw [s1, s2] at a3
    have nz : notTup z = true := by rw [hze]; rfl
    simp [L34_3, u100, u101, hi, hiI, u99', ldx, u3, l2]
    refine goT_of T2 ?_
    simp [u0, ts, nz]
    refine goT_of T3 ?_
    simp [u101, e4]
    refine ⟨k, by omega, iN, x3, by omega, by simp [u0], by simp [u3], by simp [u99, ← hxb], by simp [u100], by simp, ?_⟩
    have e5 : encKs n (l.take iN) = encKs n (l.take i) ++ (encU (codeB n e).length ++ codeB n e) := by
      rw [hiN]
      unfold encKs
      rw [flatMap_take _ _ hi, ← he]
    rw [e5, ← List.append_assoc, ← List.append_assoc]
    exact a2.trans a3
end Go.Proofs.YtnomffikflfilaaGreat
namespace Go.Proofs.YtnomffikflfilaaGreat
open Go.Ot Go.RowKit
open E8 (WR AF encU zz uint_T int_T text_T flag_T bytes_T encS encode_T Off Off.af AF.beside encU_len zz_lt encU_b strB sb sealB)
open R14 (Twos)
set_option linter.unusedSimpArgs false
set_option linter.unusedVariables false
def five (S : Shp) : List Int := [S.lo, S.hi, S.step, S.items, S.stages]
def encJ (J : Jb) : List Nat :=
  encU J.words.toNat ++ encU J.cells.length ++ encCs J.cells ++ encU J.reds.length ++ encCs J.reds ++ encU J.fuel.toNat ++ encU J.S.kind.toNat ++ (encU 5 ++ (five J.S).flatMap (fun n => encU (zz n))) ++ encU J.codes.length ++ encKs J.reds.length J.codes
theorem of_at {w : Int} : ∀ {l : List (Int × Int)} {s : List Int}, ofGo w l s = 0 → ∀ c ∈ l, 0 ≤ c.1 ∧ c.1 < w
  | [], s, _, c, hc => by cases hc
  | d :: l, s, h, c, hc => by
    simp only [ofGo] at h
    split at h
    · cases h
    rename_i h1
    split at h
    · cases h
    rcases List.mem_cons.1 hc with rfl | hc
    · omega
    · exact of_at h c hc
theorem job_ok {J : Jb} (hv : validE J = 0) : (1 ≤ J.words ∧ J.words ≤ 64) ∧ (∀ c ∈ J.cells, 0 ≤ c.1 ∧ c.1 ≤ 64) ∧ (∀ c ∈ J.reds, 0 ≤ c.1 ∧ c.1 ≤ 7) ∧ (1 ≤ J.fuel ∧ J.fuel ≤ 4000) ∧ (1 ≤ J.S.kind ∧ J.S.kind ≤ 2) := by
  unfold validE at hv
  split at hv
  · rename_i h; exact absurd hv h
  rename_i h1
  split at hv
  · rename_i h; exact absurd hv h
  rename_i h2
  split at hv
  · cases hv
  rename_i h3
  split at hv
  · rename_i h; exact absurd hv h
  rename_i h4
  simp only [ne_eq, Decidable.not_not] at h1 h2 h4
  unfold ofE at h1
  split at h1
  · cases h1
  rename_i h5
  refine ⟨by omega, fun c hc => by have := of_at h1 c hc; omega, fun c hc => ?_, by omega, ?_⟩
  · unfold R14.chkC at h2
    split at h2
    · cases h2
    split at h2
    · rename_i h6
      have := List.all_eq_true.1 h6 c hc
      simp only [R14.right, Bool.and_eq_true, decide_eq_true_eq] at this
      omega
    · cases h2
  · unfold cntP at h4
    split at h4
    · rename_i h6; omega
    · split at h4
      · rename_i h6; omega
      · cases h4
theorem pigeon : ∀ (n : Nat) (l : List Nat), l.Nodup → (∀ a ∈ l, a < n) → l.length ≤ n
  | 0, [], _, _ => Nat.le_refl _
  | 0, a :: l, _, h => absurd (h a (by simp)) (by omega)
  | n + 1, l, hd, h => by
    by_cases hm : n ∈ l
    · have h1 := pigeon n (l.erase n) (hd.erase n) (fun a ha => by
        rw [hd.mem_erase_iff] at ha
        have := h a ha.2
        omega)
      rw [List.length_erase_of_mem hm] at h1
      omega
    · have h1 := pigeon n l hd (fun a ha => by
        have := h a ha
        have : a ≠ n := fun e => hm (e ▸ ha)
        omega)
      omega
theorem ofGo_len {w : Int} (hw : w ≤ 64) : ∀ (l : List (Int × Int)) (seen : List Int), (∀ a ∈ seen, 0 ≤ a ∧ a < 64) → (seen.map Int.toNat).Nodup → ofGo w l seen = 0 → seen.length + l.length ≤ 64
  | [], seen, h1, h2, _ => by
    have := pigeon 64 (seen.map Int.toNat) h2 (fun a ha => by
      obtain ⟨b, hb, rfl⟩ := List.mem_map.1 ha
      have := h1 b hb
      omega)
    simpa using this
  | c :: l, seen, h1, h2, h => by
    unfold ofGo at h
    split at h
    · cases h
    · rename_i hc
      split at h
      · cases h
      · rename_i hs
        have ih := ofGo_len hw l (seen ++ [c.1]) (fun a ha => by
          rcases List.mem_append.1 ha with ha | ha
          · exact h1 a ha
          · simp only [List.mem_singleton] at ha
            subst ha; omega) (by
          rw [List.map_append, List.nodup_append]
          refine ⟨h2, by simp, ?_⟩
          intro a ha b hb e
          simp only [List.map_cons, List.map_nil, List.mem_singleton] at hb
          subst hb
          obtain ⟨d, hd, hde⟩ := List.mem_map.1 ha
          have := h1 d hd
          have : d = c.1 := by omega
          exact hs (this ▸ hd)) h
        simp only [List.length_append, List.length_cons, List.length_nil] at ih ⊢
        omega
theorem job_small {J : Jb} (hv : validE J = 0) : J.cells.length ≤ 200 ∧ J.reds.length ≤ 50 ∧ J.codes.length ≤ 50 := by
  unfold validE at hv
  split at hv
  · rename_i h; exact absurd hv h
  rename_i h1
  split at hv
  · rename_i h; exact absurd hv h
  rename_i h2
  split at hv
  · cases hv
  split at hv
  · rename_i h; exact absurd hv h
  rename_i h4
  split at hv
  · cases hv
  rename_i h5
  refine ⟨?_, ?_, ?_⟩
  · have h1' : ofE J.words J.cells = 0 := by simpa using h1
    unfold ofE at h1'
    split at h1'
    · cases h1'
    · have := ofGo_len (w := J.words) (by omega) J.cells [] (by simp) (by simp) h1'
      simp at this
      omega
  · have h2' : R14.chkC J.reds = 0 := by simpa using h2
    unfold R14.chkC at h2'
    split at h2'
    · cases h2'
    · omega
  · have h4' : (cntP J.S).2 = 0 := by simpa using h4
    have h5' : (J.codes.length : Int) = stgV J.S := by simpa using h5
    unfold stgV at h5'
    unfold cntP at h4'
    split at h5'
    · rename_i hk
      rw [if_neg (by omega)] at h4'
      split at h4'
      · omega
      · cases h4'
    · omega
theorem job_E {H0 H : Heap} (hw0 : H0.WF) {p : Nat} {bs : List Nat} {x : Value} (P : PW H0 H p bs x) (hbl : bs.length ≤ 1000) {J : Jb} (ok : JbOk H0 J) (jb : JbB J) (hv : validE J = 0) :
    ∃ v H', T Tryz.prog 34 [ptr p, .agg (jobC J).toArray] H v H' ∧ ∃ x', AF H H' p x (bs ++ encJ J) x' := by
  refine T_by hm light34 ?_
  have hw := P.on.wf
  obtain ⟨jw, jc, jr, jf, jk⟩ := job_ok hv
  obtain ⟨nc, nr, nk⟩ := job_small hv
  have hS := ok.S
  obtain ⟨HA, hHA⟩ : ∃ HA, HA = H.new 29 11 (jobC J) := ⟨_, rfl⟩
  have onA : On H HA := by rw [hHA]; exact (On.refl hw).new _ _ _
  have vA : Vr HA H.next 29 11 (jobC J) := by rw [hHA]; exact Vr.mk' hw _ _ _
  have wA := onA.wf
  have hHA2 : H.new 29 11 [iv J.words, J.xc, J.xr, iv J.fuel, iv J.S.kind, iv J.S.lo, iv J.S.hi, iv J.S.step, iv J.S.items, iv J.S.stages, J.xk] = HA := hHA.symm
  have ppn := hw.lt P.wr.bp
  have a0 : AF H HA p x bs x := AF.on (Aft.refl hw P.wr) onA
  have off0 : Off HA p x H.next := ⟨wA.lt vA.bq, by omega, fun e => by have := P.wr.own.lt hw e; omega⟩
  have P0 := P.grow onA
  obtain ⟨ac, cc, hxc⟩ := ok.xc.len
  obtain ⟨ar, cr, hxr⟩ := ok.xr.len
  obtain ⟨ak, ck, hxk⟩ := ok.xk.len
  obtain ⟨w, hw1⟩ : ∃ w : Nat, J.words = (w : Int) := ⟨J.words.toNat, by omega⟩
  have ew : IntKind.u64.wrap J.words = (w : Int) := by rw [hw1]; exact wu64 _ (by omega)
  have u1 := encU_len 9 w (by omega)
  obtain ⟨v1, H1, T1, x1, a1⟩ := uint_T wA a0.wr (n := w) (by omega) (by omega)
  have A1 : AF HA H1 p x (bs ++ encU w) x1 := a1
  have V1 := Vr.af vA off0 A1
  have N1 : (bs ++ encU w).length ≤ 1010 := by rw [List.length_append]; omega
  have e2 : IntKind.u64.wrap (J.cells.length : Int) = (J.cells.length : Int) := wu64 _ (by omega)
  have u2 := encU_len 9 J.cells.length (by omega)
  obtain ⟨v2, H2, T2, x2, a2⟩ := uint_T a1.wf a1.wr (n := J.cells.length) (by omega) (by omega)
  have A2 := A1.trans a2
  have V2 := Vr.af vA off0 A2
  have P2 := P0.af A2
  obtain ⟨b2, hb2⟩ : ∃ b, b = bs ++ encU w ++ encU J.cells.length := ⟨_, rfl⟩
  have N2 : b2.length ≤ 1020 := by rw [hb2, List.length_append]; omega
  have j0 : HA.load ⟨H.next, 0, none⟩ = some (iv J.words) := vA.load 0
  have j1 : H1.load ⟨H.next, 1, none⟩ = some J.xc := V1.load 1
  have j1' : H2.load ⟨H.next, 1, none⟩ = some J.xc := V2.load 1
  have lxc : sLenL J.xc = some (iv J.cells.length) := by rw [hxc]; rfl
  have lxr : sLenL J.xr = some (iv J.reds.length) := by rw [hxr]; rfl
  have lxk : sLenL J.xk = some (iv J.codes.length) := by rw [hxk]; rfl
  rw [← hb2] at P2 A2 a2
  simp [L34, hHA2, j0, ew]
  refine goT_of T1 ?_
  simp [j1, lxc, e2]
  refine goT_of T2 ?_
  simp [j1', lxc]
  refine cells_loop hw0 P2 ok.xc (fun c hc => by have := jc c hc; exact ⟨by omega, by omega, (jb.c c hc).2⟩) (by omega) (by omega) (by simp) (by simp) (by simp) (by simp) ?_
  intro t3 H3 x3 q0 q3 a3
  simp at q3
  have A3 := A2.trans a3
  have V3 := Vr.af vA off0 A3
  have hc3 := encCs_len J.cells (fun c hc => by have := jc c hc; exact ⟨by omega, by omega, (jb.c c hc).2⟩)
  obtain ⟨b3, hb3⟩ : ∃ b, b = b2 ++ encCs J.cells := ⟨_, rfl⟩
  have N3 : b3.length ≤ 5100 := by rw [hb3, List.length_append]; omega
  rw [← hb3] at A3 a3
  have e4 : IntKind.u64.wrap (J.reds.length : Int) = (J.reds.length : Int) := wu64 _ (by omega)
  have u4 := encU_len 9 J.reds.length (by omega)
  have j2 : H3.load ⟨H.next, 2, none⟩ = some J.xr := V3.load 2
  obtain ⟨v4, H4, T4, x4, a4⟩ := uint_T A3.wf A3.wr (n := J.reds.length) (by omega) (by omega)
  have A4 := A3.trans a4
  have V4 := Vr.af vA off0 A4
  have P4 := P0.af A4
  obtain ⟨b4, hb4⟩ : ∃ b, b = b3 ++ encU J.reds.length := ⟨_, rfl⟩
  have N4 : b4.length ≤ 5110 := by rw [hb4, List.length_append]; omega
  rw [← hb4] at A4 a4 P4
  have j2' : H4.load ⟨H.next, 2, none⟩ = some J.xr := V4.load 2
  simp [q0, q3, j2, lxr, e4]
  refine goT_of T4 ?_
  simp [q3, j2', lxr]
  refine reds_loop hw0 P4 ok.xr (fun c hc => by have := jr c hc; exact ⟨by omega, by omega, (jb.r c hc).2⟩) (by omega) (by omega) (by simp [q0]) (by simp) (by simp) (by simp) ?_
  intro t5 H5 x5 r0 r3 a5
  simp [q3] at r3
  have A5 := A4.trans a5
  have V5 := Vr.af vA off0 A5
  have hc5 := encCs_len J.reds (fun c hc => by have := jr c hc; exact ⟨by omega, by omega, (jb.r c hc).2⟩)
  obtain ⟨b5, hb5⟩ : ∃ b, b = b4 ++ encCs J.reds := ⟨_, rfl⟩
  have N5 : b5.length ≤ 6200 := by rw [hb5, List.length_append]; omega
  rw [← hb5] at A5 a5
  obtain ⟨f, hf⟩ : ∃ f : Nat, J.fuel = (f : Int) := ⟨J.fuel.toNat, by omega⟩
  have ef : IntKind.u64.wrap J.fuel = (f : Int) := by rw [hf]; exact wu64 _ (by omega)
  have u6 := encU_len 9 f (by omega)
  have j3 : H5.load ⟨H.next, 3, none⟩ = some (iv J.fuel) := V5.load 3
  obtain ⟨v6, H6, T6, x6, a6⟩ := uint_T A5.wf A5.wr (n := f) (by omega) (by omega)
  have A6 := A5.trans a6
  have V6 := Vr.af vA off0 A6
  have N6 : (b5 ++ encU f).length ≤ 6210 := by rw [List.length_append]; omega
  obtain ⟨kd, hkd⟩ : ∃ f : Nat, J.S.kind = (f : Int) := ⟨J.S.kind.toNat, by omega⟩
  have ek : IntKind.u64.wrap J.S.kind = (kd : Int) := by rw [hkd]; exact wu64 _ (by omega)
  have u7 := encU_len 9 kd (by omega)
  have j4 : H6.load ⟨H.next, 4, none⟩ = some (iv J.S.kind) := V6.load 4
  obtain ⟨v7, H7, T7, x7, a7⟩ := uint_T A6.wf A6.wr (n := kd) (by omega) (by omega)
  have A7 := A6.trans a7
  have V7 := Vr.af vA off0 A7
  obtain ⟨b7, hb7⟩ : ∃ b, b = b5 ++ encU f ++ encU kd := ⟨_, rfl⟩
  have N7 : b7.length ≤ 6220 := by rw [hb7, List.length_append]; omega
  rw [← hb7] at A7 a7
  have s1 : H7.load ⟨H.next, 5, none⟩ = some (iv J.S.lo) := V7.load 5
  have s2 : H7.load ⟨H.next, 6, none⟩ = some (iv J.S.hi) := V7.load 6
  have s3 : H7.load ⟨H.next, 7, none⟩ = some (iv J.S.step) := V7.load 7
  have s4 : H7.load ⟨H.next, 8, none⟩ = some (iv J.S.items) := V7.load 8
  have s5 : H7.load ⟨H.next, 9, none⟩ = some (iv J.S.stages) := V7.load 9
  have w7 := A7.wf
  obtain ⟨y, hy⟩ : ∃ y, y = H7.next := ⟨_, rfl⟩
  obtain ⟨H8, hH8⟩ : ∃ H8, H8 = H7.new 2 1 (R14.ci (five J.S)) := ⟨_, rfl⟩
  have on8 : On H7 H8 := by rw [hH8]; exact (On.refl w7).new _ _ _
  have v8 : Vr H8 y 2 1 (R14.ci (five J.S)) := by rw [hH8, hy]; exact Vr.mk' w7 _ _ _
  have hH82 : H7.new 2 1 [iv J.S.lo, iv J.S.hi, iv J.S.step, iv J.S.items, iv J.S.stages] = H8 := hH8.symm
  have A8 := AF.on A7 on8
  have W8 : WR H8 p b7 x7 := A7.wr.keep w7 (B_eq on8.base) on8.keep
  have offy : Off H8 p x7 y := ⟨on8.wf.lt v8.bq, by have := w7.lt A7.wr.bp; omega, fun e => by have := A7.wr.own.lt w7 e; omega⟩
  have ok5 : ∀ n ∈ five J.S, okW n := by
    intro n hn
    simp only [five, List.mem_cons, List.not_mem_nil, or_false] at hn
    rcases hn with rfl | rfl | rfl | rfl | rfl
    · exact hS.lo
    · exact hS.hi
    · exact hS.step
    · exact hS.items
    · exact hS.stages
  obtain ⟨v9, H9, T9, x9, a9⟩ := ints_E on8.wf W8 (by omega) v8 offy ok5 (by show 5 ≤ 1000; decide)
  have T9' : T Tryz.prog 73 [ptr p, .slice (some ⟨y, 0, none⟩) 5 0] H8 v9 H9 := T9
  have A9 := A8.trans a9
  have V9 := Vr.af vA off0 A9
  have h9 := flatMap_len (k := 10) (five J.S) (g := fun n => encU (zz n)) (fun n hn => encU_len 9 _ (by have := zz_lt (ok5 n hn); omega))
  have l5 : (five J.S).length = 5 := rfl
  have u9 := encU_len 9 5 (by omega)
  obtain ⟨b9, hb9⟩ : ∃ b, b = b7 ++ encU (five J.S).length ++ (five J.S).flatMap (fun n => encU (zz n)) := ⟨_, rfl⟩
  have N9 : b9.length ≤ 6290 := by rw [hb9, List.length_append, List.length_append, l5]; omega
  rw [← hb9] at A9 a9
  have e10 : IntKind.u64.wrap (J.codes.length : Int) = (J.codes.length : Int) := wu64 _ (by omega)
  have u10 := encU_len 9 J.codes.length (by omega)
  have j10 : H9.load ⟨H.next, 10, none⟩ = some J.xk := V9.load 10
  obtain ⟨v10, H10, T10, x10, a10⟩ := uint_T A9.wf A9.wr (n := J.codes.length) (by omega) (by omega)
  have A10 := A9.trans a10
  have V10 := Vr.af vA off0 A10
  have P10 := P0.af A10
  obtain ⟨b10, hb10⟩ : ∃ b, b = b9 ++ encU J.codes.length := ⟨_, rfl⟩
  have N10 : b10.length ≤ 6300 := by rw [hb10, List.length_append]; omega
  rw [← hb10] at A10 a10 P10
  have j10' : H10.load ⟨H.next, 10, none⟩ = some J.xk := V10.load 10
  have off10 : Off H10 p x10 H.next := (Off.af off0 A10).1
  simp [r0, r3, j3, ef]
  refine goT_of T6 ?_
  simp [r0, r3, j4, ek]
  refine goT_of T7 ?_
  have z5 : zerosA [iv 0] 5 = [iv 0, iv 0, iv 0, iv 0, iv 0] := rfl
  simp [r0, r3, s1, s2, s3, s4, s5, z5, hH82, ← hy]
  refine goT_of T9' ?_
  simp [r0, r3, j10, lxk, e10]
  refine goT_of T10 ?_
  simp [r3, j10', lxk]
  refine codes_loop hw0 P10 ok.xk jb.k (by omega) (by omega) V10 off10 (n := J.reds.length) (a := ar) (cr := cr) (by show some J.xr = _; rw [hxr]) (by simp [r0]) (by simp [r3]) (by simp) (by simp) (by simp) ?_
  intro t11 H11 x11 a11
  simp
  refine ⟨x11, ?_⟩
  have A11 := a0.trans (A10.trans a11)
  have e5 : encJ J = encU w ++ encU J.cells.length ++ encCs J.cells ++ encU J.reds.length ++ encCs J.reds ++ encU f ++ encU kd ++ (encU 5 ++ (five J.S).flatMap (fun n => encU (zz n))) ++ encU J.codes.length ++ encKs J.reds.length J.codes := by
    unfold encJ
    rw [show J.words.toNat = w by omega, show J.fuel.toNat = f by omega, show J.S.kind.toNat = kd by omega]
  rw [hb10, hb9, hb7, hb5, hb4, hb3, hb2, l5] at A11
  rw [e5]
  simpa only [List.append_assoc] using A11
end Go.Proofs.YtnomffikflfilaaGreat
namespace Go.Proofs.YtnomffikflfilaaGreat
open Go.Ot Go.RowKit
open E8 (WR AF encU zz uint_T int_T text_T flag_T bytes_T encS encode_T Off Off.af AF.beside encU_len zz_lt encU_b strB sb sealB Bs)
open R14 (Twos)
set_option linter.unusedSimpArgs false
set_option linter.unusedVariables false
def Lt (l : List Nat) : Prop := ∀ b ∈ l, b < 256
theorem Lt.app {a b : List Nat} (h : Lt a) (h2 : Lt b) : Lt (a ++ b) := fun x hx => (List.mem_append.1 hx).elim (h x) (h2 x)
theorem Lt.flat {α : Type} {g : α → List Nat} {l : List α} (h : ∀ a ∈ l, Lt (g a)) : Lt (l.flatMap g) := fun x hx => by
  obtain ⟨y, hy, hx⟩ := List.mem_flatMap.1 hx
  exact h y hy x hx
theorem Lt.u (n : Nat) : Lt (encU n) := encU_b n
theorem encCs_lt (l : List (Int × Int)) : Lt (encCs l) := Lt.flat fun c _ => (Lt.u _).app (Lt.u _)
theorem encKs_lt (n : Int) (l : List (List I8.In)) : Lt (encKs n l) := Lt.flat fun c _ => (Lt.u _).app (codeB_lt n c)
theorem encJ_lt (J : Jb) : Lt (encJ J) :=
  (((((((((Lt.u _).app (Lt.u _)).app (encCs_lt _)).app (Lt.u _)).app (encCs_lt _)).app (Lt.u _)).app (Lt.u _)).app ((Lt.u _).app (Lt.flat fun _ _ => Lt.u _))).app (Lt.u _)).app (encKs_lt _ _)
theorem flag_lt (b : Bool) : Lt [if b then 1 else 0] := by
  intro x hx
  cases b <;> simp at hx <;> omega
theorem encC_lt (C : Cfg) : Lt (encC C) := (Lt.flat fun _ _ => Lt.u _).app (flag_lt _)
theorem encR_lt : ∀ (n : Nat) (l : List Ent), Lt (encR n l)
  | 0, _ => fun x hx => by cases hx
  | _ + 1, [] => fun x hx => by cases hx
  | n + 1, e :: l => (((Lt.u _).app (Lt.u _)).app (flag_lt _)).app (encR_lt n _)
def bodyV (J : Jb) (C : Cfg) (l : List Ent) : List Nat := encU 1 ++ encJ J ++ encC C ++ (encU l.length ++ encR l.length l)
theorem bodyV_lt (J : Jb) (C : Cfg) (l : List Ent) : Lt (bodyV J C l) := (((Lt.u _).app (encJ_lt J)).app (encC_lt C)).app ((Lt.u _).app (encR_lt _ _))
theorem encJ_len {J : Jb} (hv : validE J = 0) (nc : J.cells.length ≤ 200) (nr : J.reds.length ≤ 50) (nk : J.codes.length ≤ 50) (hS : ShpOk J.S) (jb : JbB J) : (encJ J).length ≤ 2000000 := by
  obtain ⟨jw, jc, jr, jf, jk⟩ := job_ok hv
  have h1 := encU_len 9 J.words.toNat (by omega)
  have h2 := encU_len 9 J.cells.length (by omega)
  have h3 := encCs_len J.cells (fun c hc => by have := jc c hc; exact ⟨by omega, by omega, (jb.c c hc).2⟩)
  have h4 := encU_len 9 J.reds.length (by omega)
  have h5 := encCs_len J.reds (fun c hc => by have := jr c hc; exact ⟨by omega, by omega, (jb.r c hc).2⟩)
  have h6 := encU_len 9 J.fuel.toNat (by omega)
  have h7 := encU_len 9 J.S.kind.toNat (by omega)
  have h8 := encU_len 9 5 (by omega)
  have ok5 : ∀ n ∈ five J.S, okW n := by
    intro n hn
    simp only [five, List.mem_cons, List.not_mem_nil, or_false] at hn
    rcases hn with rfl | rfl | rfl | rfl | rfl
    · exact hS.lo
    · exact hS.hi
    · exact hS.step
    · exact hS.items
    · exact hS.stages
  have h9 := flatMap_len (k := 10) (five J.S) (g := fun n => encU (zz n)) (fun n hn => encU_len 9 _ (by have := zz_lt (ok5 n hn); omega))
  have l5 : (five J.S).length = 5 := rfl
  have h10 := encU_len 9 J.codes.length (by omega)
  have h11 := flatMap_len (k := 36020) J.codes (g := fun c => encU (codeB J.reds.length c).length ++ codeB J.reds.length c) (fun c hc => by
    have h1 := codeB_len J.reds.length c (jb.k c hc)
    have h2 := encU_len 9 (codeB J.reds.length c).length (by omega)
    rw [List.length_append]; omega)
  unfold encJ encKs
  simp only [List.length_append]
  omega
theorem encC_len {C : Cfg} (hr : rightE C = 0) : (encC C).length ≤ 101 := by
  have hten := ten_ok hr
  have h := flatMap_len (k := 10) (ten C) (g := fun n => encU n.toNat) (fun n hn => encU_len 9 _ (by have := hten n hn; omega))
  have l10 : (ten C).length = 10 := rfl
  unfold encC
  rw [List.length_append]
  simp only [List.length_cons, List.length_nil]
  omega
def packV (J : Jb) (C : Cfg) (l : List Ent) : Int × List Nat :=
  if playE J C l.length ≠ 0 then (playE J C l.length, []) else if 1048576 < (bodyV J C l).length then (23, []) else (0, sealB (bodyV J C l))
def PackQ (H : Heap) (J : Jb) (C : Cfg) (l : List Ent) (o : Out) (H' : Heap) : Prop :=
  On H H' ∧ ∃ y, o = .ret (.tuple #[y, iv (packV J C l).1]) ∧ Own H' 5 1 (packV J C l).2.length (E8.bc (packV J C l).2) y ∧ ∀ b, blkOf y = some b → H.next ≤ b
theorem pack_E {H : Heap} (hw : H.WF) {J : Jb} (ok : JbOk H J) (jb : JbB J) (C : Cfg) {a : Option Addr} {c : Nat} {l : List Ent} (hx : Rl H (.slice a l.length c) l) (hl : l.length ≤ 50000) (hb : ∀ e ∈ l, -9223372036854775808 ≤ e.1 ∧ e.1 ≤ 9223372036854775807) :
    TE Tryz.prog 10 [.agg (runC J C (.slice a l.length c)).toArray] H (PackQ H J C l) := by
  refine TE_by hm light10 ?_
  obtain ⟨V, hV⟩ : ∃ V, V = packV J C l := ⟨_, rfl⟩
  unfold PackQ
  rw [← hV]
  unfold packV at hV
  obtain ⟨HA, hHA⟩ : ∃ HA, HA = H.new 42 23 (runC J C (.slice a l.length c)) := ⟨_, rfl⟩
  have onA : On H HA := by rw [hHA]; exact (On.refl hw).new _ _ _
  have vA : Vr HA H.next 42 23 (runC J C (.slice a l.length c)) := by rw [hHA]; exact Vr.mk' hw _ _ _
  have wA := onA.wf
  have okA := ok.on hw onA
  have lA := (RL.of vA).lA
  have iT := iright_T wA okA C a l.length c
  by_cases hp : playE J C l.length = 0
  case neg =>
    rw [if_pos hp] at hV
    have e1 : (playE J C l.length != 0) = true := bne_iff_ne.2 hp
    simp [L10, ← hHA, lA]
    refine goT_of iT ?_
    simp [e1, hV]
    exact ⟨onA, E8.nil_own HA⟩
  case pos =>
  rw [if_neg (by simpa using hp)] at hV
  rw [hp] at iT
  have hvr : validE J = 0 ∧ rightE C = 0 := by
    unfold playE at hp
    split at hp
    · rename_i h; exact absurd hp h
    · rename_i h
      split at hp
      · rename_i h2; exact absurd hp h2
      · rename_i h2; exact ⟨by simpa using h, by simpa using h2⟩
  obtain ⟨hv, hr⟩ := hvr
  have T0 := E8.new_T wA
  have W0 := E8.new_WR wA
  obtain ⟨p, hp0⟩ : ∃ p, p = HA.next := ⟨_, rfl⟩
  obtain ⟨HB, hHB⟩ : ∃ HB, HB = HA.new 150 1 [.slice none 0 0] := ⟨_, rfl⟩
  have onB : On HA HB := by rw [hHB]; exact (On.refl wA).new _ _ _
  rw [← hHB, ← hp0] at T0
  rw [← hHB, ← hp0] at W0
  have PB : PW HA HB p [] (.slice none 0 0) := ⟨onB, W0, by omega, fun b hb => by cases hb⟩
  obtain ⟨v1, H1, T1, x1, a1⟩ := uint_T onB.wf W0 (n := 1) (by omega) (by simp)
  rw [List.nil_append] at a1
  have P1 := PB.af a1
  have u1 := encU_len 9 1 (by omega)
  obtain ⟨v2, H2, T2, x2, a2⟩ := job_E wA P1 (by omega) okA jb hv
  have P2 := P1.af a2
  have hJl := encJ_len hv (job_small hv).1 (job_small hv).2.1 (job_small hv).2.2 okA.S jb
  have N2 : (encU 1 ++ encJ J).length ≤ 2000010 := by rw [List.length_append]; omega
  obtain ⟨v3, H3, T3, x3, a3⟩ := config_E P2 (by omega) hr
  have P3 := P2.af a3
  have hCl := encC_len hr
  have N3 : (encU 1 ++ encJ J ++ encC C).length ≤ 2000111 := by rw [List.length_append]; omega
  obtain ⟨v4, H4, T4, x4, a4⟩ := entries_E wA P3 (by omega) (hx.on hw onA) hl hb
  have P4 := P3.af a4
  rw [List.append_assoc] at a4 P4
  have hRl := encR_len l.length l hl hb
  have hUl := encU_len 9 l.length (by omega)
  obtain ⟨B, hB⟩ : ∃ B, B = bodyV J C l := ⟨_, rfl⟩
  have eB : encU 1 ++ encJ J ++ encC C ++ (encU l.length ++ encR l.length l) = B := by rw [hB]; rfl
  rw [eB] at a4 P4
  have N4 : B.length ≤ 5000000 := by rw [← eB]; simp only [List.length_append] at N3 ⊢; omega
  obtain ⟨v5, H5, T5, o5, n5, s5⟩ := bytes_T a4.wf a4.wr (by omega)
  have on45 : On H4 H5 := ⟨T5.2.2.1 a4.wf, T5.1, T5.2.1, fun b hb => s5 b hb (by simp)⟩
  have w5 := on45.wf
  have b5 : Bs H5 v5 B := E8.own_bs o5
  have hlt : ∀ b ∈ B, b < 256 := by rw [hB]; exact bodyV_lt J C l
  have onH1 := onA.trans P1.on
  have onH4 := onA.trans P4.on
  have onH5 := onH4.trans on45
  have l0 : H1.loadN ⟨H.next, 0, none⟩ 0 11 = some (jobC J) := (RL.of (vA.on wA P1.on)).lJ
  have l11 : H2.loadN ⟨H.next, 11, none⟩ 0 11 = some (cfgC C) := (RL.of (vA.on wA P2.on)).lC
  have l22 : H3.load ⟨H.next, 22, none⟩ = some (.slice a l.length c) := (RL.of (vA.on wA P3.on)).l22
  rw [← hB] at hV
  simp [L10, ← hHA, lA]
  refine goT_of iT ?_
  simp
  refine goT_of T0 ?_
  simp
  refine goT_of T1 ?_
  simp [l0]
  refine goT_of T2 ?_
  simp [l11]
  refine goT_of T3 ?_
  simp [l22]
  refine goT_of T4 ?_
  simp
  refine goT_of T5 ?_
  by_cases hbig : 1048576 < B.length
  · rw [if_pos hbig] at hV
    have sT := E8.seal_big b5 hbig
    simp
    refine goT_of sT ?_
    simp [hV]
    exact ⟨onH5, E8.nil_own H5⟩
  · rw [if_neg hbig] at hV
    obtain ⟨v6, H6, T6, y, rfl, g6⟩ := E8.seal_T w5 b5 hlt (by omega)
    have on6 : On H5 H6 := ⟨g6.wf, g6.base, g6.next, E8.OG.olds g6⟩
    obtain ⟨ya, hy⟩ := g6.own.len
    have ny : notTup y = true := by rw [hy]; rfl
    simp
    refine goT_of T6 ?_
    simp [hV, ny]
    refine ⟨onH5.trans on6, g6.own, fun b hb => ?_⟩
    rcases g6.old b hb with h | h
    · cases h
    · have := onH5.next; omega
end Go.Proofs.YtnomffikflfilaaGreat
