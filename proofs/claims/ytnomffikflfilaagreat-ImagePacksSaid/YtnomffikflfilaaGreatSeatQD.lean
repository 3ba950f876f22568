/-
  Chapter 26: the document's image: cells, reductions, numbers, texts.
-/
import Derived.Test.YtnomffikflfilaaGreatSeatQC
namespace Go.Proofs.YtnomffikflfilaaGreat
open Go.Ot Go.RowKit
open E8 (encU zz encU_len zz_lt encU_b uintR_T intR_T OG Bs bc)
open R14 (Twos)
set_option linter.unusedSimpArgs false
set_option linter.unusedVariables false
def InvD1 (H : Heap) (y0 : Value) (bs : List Nat) (l : List (Int × Int)) (t0 : Tm) (k : Nat) (t : Tm) (H1 : Heap) : Prop :=
  ∃ (i : Nat) (y : Value), i + k = l.length ∧ t 2 = t0 2 ∧ t 3 = t0 3 ∧ t 4 = t0 4 ∧ t 9 = y ∧ t 10 = iv i ∧ OG H H1 y0 (bs ++ encCs (l.take i)) y
theorem cellsR {H0 H : Heap} (hw0 : H0.WF) {p : Nat} {J : Jb} (vJ : Vr H0 p 29 11 (jobC J)) (hx : Twos H0 J.xc J.cells) (hn : ∀ c ∈ J.cells, 0 ≤ c.1 ∧ c.1 ≤ 1000000 ∧ okW c.2) (hl : J.cells.length ≤ 1000) {bs : List Nat} {y : Value} (g0 : OG H0 H nilS bs y) (hbl : bs.length ≤ 100000000)
    {Q : Post} {t : Tm} (t3 : t 3 = ptr p) (t9 : t 9 = y) (t10 : t 10 = iv 0)
    (hE : ∀ (t' : Tm) (H1 : Heap) (y' : Value), t' 2 = t 2 → t' 3 = ptr p → t' 4 = t 4 → t' 9 = y' → OG H H1 y (bs ++ encCs J.cells) y' → Q (.exit 0) t' (rdy H1)) : wpA Tryz.prog (.loop L12_1) Q t (rdy H) := by
  have hw := g0.wf
  refine loop_at (InvD1 H y bs J.cells t) J.cells.length ?_ ?_
  · exact ⟨0, y, by omega, rfl, rfl, rfl, t9, t10, by simpa [encCs] using Og.refl hw g0.own⟩
  rintro k t1 H1 ⟨i, y1, hik, u2, u3, u4, u9, u10, a1⟩
  rw [t3] at u3
  have on1 := OG.onF g0 a1
  have v1 := vJ.on hw0 on1
  have j1 : H1.load ⟨p, 1, none⟩ = some J.xc := v1.load 1
  have hx1 := hx.keep hw0 on1.base on1.keep
  obtain ⟨xa, xcc, hxl⟩ := hx.len
  have lxc : sLenL J.xc = some (iv J.cells.length) := by rw [hxl]; rfl
  have hel := encCs_len (J.cells.take i) (fun c hc => hn c (List.mem_of_mem_take hc))
  have htl : (J.cells.take i).length ≤ 1000 := by rw [List.length_take]; omega
  have hwl : (bs ++ encCs (J.cells.take i)).length ≤ 100100000 := by rw [List.length_append]; omega
  cases k with
  | zero =>
    have ei : i = J.cells.length := by omega
    rw [ei, List.take_length] at a1
    simp [L12_1, u3, j1, lxc, u10, ei]
    exact hE _ _ y1 (by simp [u2]) (by simp [u3]) (by simp [u4]) (by simp [u9]) a1
  | succ k =>
    have hi : i < J.cells.length := by omega
    have hiI : (i : Int) < (J.cells.length : Int) := by omega
    have e4 : IntKind.i64.wrap ((i : Int) + 1) = ((i + 1 : Nat) : Int) := by rw [w64 _ (by omega)]; omega
    obtain ⟨iN, hiN⟩ : ∃ z : Nat, z = i + 1 := ⟨_, rfl⟩
    rw [← hiN] at e4
    obtain ⟨e, he⟩ : ∃ e, e = J.cells[i] := ⟨_, rfl⟩
    obtain ⟨n0, n1, n2⟩ := hn e (by rw [he]; exact List.getElem_mem hi)
    obtain ⟨m, hm0⟩ : ∃ m : Nat, e.1 = (m : Int) := ⟨e.1.toNat, by omega⟩
    have em : e.1.toNat = m := by omega
    obtain ⟨v2, H2, T2, g2⟩ := ub_T a1.wf a1.own (n := m) (by omega) (by omega)
    have hul := encU_len 9 m (by omega)
    have hwl3 : (bs ++ encCs (J.cells.take i) ++ encU m).length ≤ 100100010 := by rw [List.length_append]; omega
    have a2 := a1.trans g2
    have on2 := OG.onF g0 a2
    have j2 : H2.load ⟨p, 1, none⟩ = some J.xc := (vJ.on hw0 on2).load 1
    obtain ⟨b, off, c, hxb, ld1, ld2⟩ := (hx.keep hw0 on1.base on1.keep).at hi
    obtain ⟨b', off', c', hxb', ld1', ld2'⟩ := (hx.keep hw0 on2.base on2.keep).at hi
    have hee := hxb.symm.trans hxb'
    simp only [Value.slice.injEq, Option.some.injEq, Addr.mk.injEq] at hee
    obtain ⟨⟨rfl, rfl, _⟩, _, rfl⟩ := hee
    rw [← he] at ld1 ld2 ld1' ld2'
    rw [hm0] at ld1
    rw [hxb] at j1 j2
    obtain ⟨v3, H3, T3, g3⟩ := sb_T a2.wf a2.own (n := e.2) n2 (by omega)
    simp [L12_1, u3, j1, u10, hi, hiI, ld1, ld2, u9]
    refine goT_of T2 ?_
    simp [u3, j1, j2, u10, hi, hiI, ld2, ld2']
    refine goT_of T3 ?_
    simp [u10, e4]
    refine ⟨k, by omega, iN, v3, by omega, by simp [u2], by simp [u3, t3], by simp [u4], by simp, by simp, ?_⟩
    have e5 : encCs (J.cells.take iN) = encCs (J.cells.take i) ++ (encU m ++ encU (zz e.2)) := by
      rw [hiN]
      unfold encCs
      rw [flatMap_take _ _ hi, ← he, em]
    rw [e5, ← List.append_assoc, ← List.append_assoc]
    exact a2.trans g3
def InvD2 (H : Heap) (y0 : Value) (bs : List Nat) (l : List (Int × Int)) (t0 : Tm) (k : Nat) (t : Tm) (H1 : Heap) : Prop :=
  ∃ (i : Nat) (y : Value), i + k = l.length ∧ t 2 = t0 2 ∧ t 3 = t0 3 ∧ t 4 = t0 4 ∧ t 9 = y ∧ t 11 = iv i ∧ OG H H1 y0 (bs ++ encCs (l.take i)) y
theorem redsR {H0 H : Heap} (hw0 : H0.WF) {p : Nat} {J : Jb} (vJ : Vr H0 p 29 11 (jobC J)) (hx : Twos H0 J.xr J.reds) (hn : ∀ c ∈ J.reds, 0 ≤ c.1 ∧ c.1 ≤ 1000000 ∧ okW c.2) (hl : J.reds.length ≤ 1000) {bs : List Nat} {y : Value} (g0 : OG H0 H nilS bs y) (hbl : bs.length ≤ 100000000)
    {Q : Post} {t : Tm} (t3 : t 3 = ptr p) (t9 : t 9 = y) (t11 : t 11 = iv 0)
    (hE : ∀ (t' : Tm) (H1 : Heap) (y' : Value), t' 2 = t 2 → t' 3 = ptr p → t' 4 = t 4 → t' 9 = y' → OG H H1 y (bs ++ encCs J.reds) y' → Q (.exit 2) t' (rdy H1)) : wpA Tryz.prog (.loop L12_2) Q t (rdy H) := by
  have hw := g0.wf
  refine loop_at (InvD2 H y bs J.reds t) J.reds.length ?_ ?_
  · exact ⟨0, y, by omega, rfl, rfl, rfl, t9, t11, by simpa [encCs] using Og.refl hw g0.own⟩
  rintro k t1 H1 ⟨i, y1, hik, u2, u3, u4, u9, u11, a1⟩
  rw [t3] at u3
  have on1 := OG.onF g0 a1
  have v1 := vJ.on hw0 on1
  have j1 : H1.load ⟨p, 2, none⟩ = some J.xr := v1.load 2
  have hx1 := hx.keep hw0 on1.base on1.keep
  obtain ⟨xa, xcc, hxl⟩ := hx.len
  have lxc : sLenL J.xr = some (iv J.reds.length) := by rw [hxl]; rfl
  have hel := encCs_len (J.reds.take i) (fun c hc => hn c (List.mem_of_mem_take hc))
  have htl : (J.reds.take i).length ≤ 1000 := by rw [List.length_take]; omega
  have hwl : (bs ++ encCs (J.reds.take i)).length ≤ 100100000 := by rw [List.length_append]; omega
  cases k with
  | zero =>
    have ei : i = J.reds.length := by omega
    rw [ei, List.take_length] at a1
    simp [L12_2, u3, j1, lxc, u11, ei]
    exact hE _ _ y1 (by simp [u2]) (by simp [u3]) (by simp [u4]) (by simp [u9]) a1
  | succ k =>
    have hi : i < J.reds.length := by omega
    have hiI : (i : Int) < (J.reds.length : Int) := by omega
    have e4 : IntKind.i64.wrap ((i : Int) + 1) = ((i + 1 : Nat) : Int) := by rw [w64 _ (by omega)]; omega
    obtain ⟨iN, hiN⟩ : ∃ z : Nat, z = i + 1 := ⟨_, rfl⟩
    rw [← hiN] at e4
    obtain ⟨e, he⟩ : ∃ e, e = J.reds[i] := ⟨_, rfl⟩
    obtain ⟨n0, n1, n2⟩ := hn e (by rw [he]; exact List.getElem_mem hi)
    obtain ⟨m, hm0⟩ : ∃ m : Nat, e.1 = (m : Int) := ⟨e.1.toNat, by omega⟩
    have em : e.1.toNat = m := by omega
    obtain ⟨v2, H2, T2, g2⟩ := ub_T a1.wf a1.own (n := m) (by omega) (by omega)
    have hul := encU_len 9 m (by omega)
    have hwl3 : (bs ++ encCs (J.reds.take i) ++ encU m).length ≤ 100100010 := by rw [List.length_append]; omega
    have a2 := a1.trans g2
    have on2 := OG.onF g0 a2
    have j2 : H2.load ⟨p, 2, none⟩ = some J.xr := (vJ.on hw0 on2).load 2
    obtain ⟨b, off, c, hxb, ld1, ld2⟩ := (hx.keep hw0 on1.base on1.keep).at hi
    obtain ⟨b', off', c', hxb', ld1', ld2'⟩ := (hx.keep hw0 on2.base on2.keep).at hi
    have hee := hxb.symm.trans hxb'
    simp only [Value.slice.injEq, Option.some.injEq, Addr.mk.injEq] at hee
    obtain ⟨⟨rfl, rfl, _⟩, _, rfl⟩ := hee
    rw [← he] at ld1 ld2 ld1' ld2'
    rw [hm0] at ld1
    rw [hxb] at j1 j2
    obtain ⟨v3, H3, T3, g3⟩ := sb_T a2.wf a2.own (n := e.2) n2 (by omega)
    simp [L12_2, u3, j1, u11, hi, hiI, ld1, ld2, u9]
    refine goT_of T2 ?_
    simp [u3, j1, j2, u11, hi, hiI, ld2, ld2']
    refine goT_of T3 ?_
    simp [u11, e4]
    refine ⟨k, by omega, iN, v3, by omega, by simp [u2], by simp [u3, t3], by simp [u4], by simp, by simp, ?_⟩
    have e5 : encCs (J.reds.take iN) = encCs (J.reds.take i) ++ (encU m ++ encU (zz e.2)) := by
      rw [hiN]
      unfold encCs
      rw [flatMap_take _ _ hi, ← he, em]
    rw [e5, ← List.append_assoc, ← List.append_assoc]
    exact a2.trans g3
def InvD3 (H : Heap) (y0 : Value) (bs : List Nat) (l : List Int) (t0 : Tm) (q : Nat) (k : Nat) (t : Tm) (H1 : Heap) : Prop :=
  ∃ (i : Nat) (y : Value), i + k = l.length ∧ t 2 = t0 2 ∧ t 3 = t0 3 ∧ t 4 = t0 4 ∧ t 12 = .slice (some ⟨q, 0, none⟩) 5 0 ∧ t 9 = y ∧ t 13 = iv i ∧ OG H H1 y0 (bs ++ (l.take i).flatMap (fun n => encU (zz n))) y
theorem fiveR {H : Heap} {q : Nat} {l : List Int} (vq : Vr H q 2 1 (R14.ci l)) (hl : l.length = 5) (hn : ∀ n ∈ l, okW n) {bs : List Nat} {y : Value} (hw : H.WF) (o : OwB H bs y) (hq : blkOf y ≠ some q) (hbl : bs.length ≤ 100000000)
    {Q : Post} {t : Tm} (t12 : t 12 = .slice (some ⟨q, 0, none⟩) 5 0) (t9 : t 9 = y) (t13 : t 13 = iv 0)
    (hE : ∀ (t' : Tm) (H1 : Heap) (y' : Value), t' 2 = t 2 → t' 3 = t 3 → t' 4 = t 4 → t' 9 = y' → OG H H1 y (bs ++ l.flatMap (fun n => encU (zz n))) y' → Q (.exit 4) t' (rdy H1)) : wpA Tryz.prog (.loop L12_3) Q t (rdy H) := by
  refine loop_at (InvD3 H y bs l t q) l.length ?_ ?_
  · exact ⟨0, y, by omega, rfl, rfl, rfl, t12, t9, t13, by simpa using Og.refl hw o⟩
  rintro k t1 H1 ⟨i, y1, hik, u2, u3, u4, u12, u9, u13, a1⟩
  have hfl := flatMap_len (k := 10) (l.take i) (g := fun n => encU (zz n)) (fun n hm => encU_len 9 _ (by have := zz_lt (hn n (List.mem_of_mem_take hm)); omega))
  have htl : (l.take i).length ≤ 5 := by rw [List.length_take]; omega
  have hwl : (bs ++ (l.take i).flatMap (fun n => encU (zz n))).length ≤ 100000100 := by rw [List.length_append]; omega
  cases k with
  | zero =>
    have ei : i = 5 := by omega
    rw [show i = l.length by omega, List.take_length] at a1
    simp [L12_3, u13, ei]
    exact hE _ _ y1 (by simp [u2]) (by simp [u3]) (by simp [u4]) (by simp [u9]) a1
  | succ k =>
    have hi : i < 5 := by omega
    have hil : i < l.length := by omega
    have hiI : (i : Int) < 5 := by omega
    have e4 : IntKind.i64.wrap ((i : Int) + 1) = ((i + 1 : Nat) : Int) := by rw [w64 _ (by omega)]; omega
    obtain ⟨iN, hiN⟩ : ∃ z : Nat, z = i + 1 := ⟨_, rfl⟩
    rw [← hiN] at e4
    obtain ⟨n, hn0⟩ : ∃ n, n = l[i] := ⟨_, rfl⟩
    have n2 := hn n (by rw [hn0]; exact List.getElem_mem hil)
    have ld : H1.load ⟨q, i, none⟩ = some (iv n) := by
      rw [load_frame a1.base (a1.same _ (hw.lt vq.bq) hq), vq.load i]
      simp [R14.ci, hil, hn0]
    obtain ⟨v3, H3, T3, g3⟩ := sb_T a1.wf a1.own (n := n) n2 (by omega)
    simp [L12_3, u13, hi, hiI, u9, u12, ld]
    refine goT_of T3 ?_
    simp [u13, e4]
    refine ⟨k, by omega, iN, v3, by omega, by simp [u2], by simp [u3], by simp [u4], by simp [u12], by simp, by simp, ?_⟩
    have e5 : (l.take iN).flatMap (fun n => encU (zz n)) = (l.take i).flatMap (fun n => encU (zz n)) ++ encU (zz n) := by
      rw [hiN, flatMap_take _ _ hil, ← hn0]
    rw [e5, ← List.append_assoc]
    exact a1.trans g3
def InvD5 (H : Heap) (y0 : Value) (bs : List Nat) (l : List Int) (t0 : Tm) (q : Nat) (k : Nat) (t : Tm) (H1 : Heap) : Prop :=
  ∃ (i : Nat) (y : Value), i + k = l.length ∧ t 2 = t0 2 ∧ t 3 = t0 3 ∧ t 4 = t0 4 ∧ t 17 = .slice (some ⟨q, 0, none⟩) 10 0 ∧ t 9 = y ∧ t 18 = iv i ∧ OG H H1 y0 (bs ++ (l.take i).flatMap (fun n => encU n.toNat)) y
theorem tenR {H : Heap} {q : Nat} {l : List Int} (vq : Vr H q 3 1 (R14.ci l)) (hl : l.length = 10) (hn : ∀ n ∈ l, 0 ≤ n ∧ n ≤ 512) {bs : List Nat} {y : Value} (hw : H.WF) (o : OwB H bs y) (hq : blkOf y ≠ some q) (hbl : bs.length ≤ 100000000)
    {Q : Post} {t : Tm} (t17 : t 17 = .slice (some ⟨q, 0, none⟩) 10 0) (t9 : t 9 = y) (t18 : t 18 = iv 0)
    (hE : ∀ (t' : Tm) (H1 : Heap) (y' : Value), t' 2 = t 2 → t' 3 = t 3 → t' 4 = t 4 → t' 9 = y' → OG H H1 y (bs ++ l.flatMap (fun n => encU n.toNat)) y' → Q (.exit 8) t' (rdy H1)) : wpA Tryz.prog (.loop L12_5) Q t (rdy H) := by
  refine loop_at (InvD5 H y bs l t q) l.length ?_ ?_
  · exact ⟨0, y, by omega, rfl, rfl, rfl, t17, t9, t18, by simpa using Og.refl hw o⟩
  rintro k t1 H1 ⟨i, y1, hik, u2, u3, u4, u17, u9, u18, a1⟩
  have hfl := flatMap_len (k := 10) (l.take i) (g := fun n => encU n.toNat) (fun n hm => encU_len 9 _ (by have := hn n (List.mem_of_mem_take hm); omega))
  have htl : (l.take i).length ≤ 10 := by rw [List.length_take]; omega
  have hwl : (bs ++ (l.take i).flatMap (fun n => encU n.toNat)).length ≤ 100000100 := by rw [List.length_append]; omega
  cases k with
  | zero =>
    have ei : i = 10 := by omega
    rw [show i = l.length by omega, List.take_length] at a1
    simp [L12_5, u18, ei]
    exact hE _ _ y1 (by simp [u2]) (by simp [u3]) (by simp [u4]) (by simp [u9]) a1
  | succ k =>
    have hi : i < 10 := by omega
    have hil : i < l.length := by omega
    have hiI : (i : Int) < 10 := by omega
    have e4 : IntKind.i64.wrap ((i : Int) + 1) = ((i + 1 : Nat) : Int) := by rw [w64 _ (by omega)]; omega
    obtain ⟨iN, hiN⟩ : ∃ z : Nat, z = i + 1 := ⟨_, rfl⟩
    rw [← hiN] at e4
    obtain ⟨n, hn0⟩ : ∃ n, n = l[i] := ⟨_, rfl⟩
    have n2 := hn n (by rw [hn0]; exact List.getElem_mem hil)
    obtain ⟨m, hm⟩ : ∃ m : Nat, n = (m : Int) := ⟨n.toNat, by omega⟩
    have em : n.toNat = m := by omega
    have ld : H1.load ⟨q, i, none⟩ = some (iv m) := by
      rw [load_frame a1.base (a1.same _ (hw.lt vq.bq) hq), vq.load i, ← hm]
      simp [R14.ci, hil, hn0]
    obtain ⟨v3, H3, T3, g3⟩ := ub_T a1.wf a1.own (n := m) (by omega) (by omega)
    simp [L12_5, u18, hi, hiI, u9, u17, ld]
    refine goT_of T3 ?_
    simp [u18, e4]
    refine ⟨k, by omega, iN, v3, by omega, by simp [u2], by simp [u3], by simp [u4], by simp [u17], by simp, by simp, ?_⟩
    have e5 : (l.take iN).flatMap (fun n => encU n.toNat) = (l.take i).flatMap (fun n => encU n.toNat) ++ encU m := by
      rw [hiN, flatMap_take _ _ hil, ← hn0, em]
    rw [e5, ← List.append_assoc]
    exact a1.trans g3
def InvD4 (H : Heap) (y0 : Value) (bs : List Nat) (n : Int) (l : List (List I8.In)) (t0 : Tm) (k : Nat) (t : Tm) (H1 : Heap) : Prop :=
  ∃ (i : Nat) (y : Value), i + k = l.length ∧ t 2 = t0 2 ∧ t 3 = t0 3 ∧ t 4 = t0 4 ∧ t 9 = y ∧ t 14 = iv i ∧ OG H H1 y0 (bs ++ encKs n (l.take i)) y
theorem codesR {H0 H : Heap} (hw0 : H0.WF) {p : Nat} {J : Jb} (vJ : Vr H0 p 29 11 (jobC J)) (ok : JbOk H0 J) (hk : ∀ c ∈ J.codes, ∀ a ∈ c, I8.okI a.k) {bs : List Nat} {y : Value} (g0 : OG H0 H nilS bs y) (hbl : bs.length ≤ 100000000)
    {Q : Post} {t : Tm} (t3 : t 3 = ptr p) (t9 : t 9 = y) (t14 : t 14 = iv 0)
    (hE : ∀ (t' : Tm) (H1 : Heap) (y' : Value), t' 2 = t 2 → t' 3 = ptr p → t' 4 = t 4 → t' 9 = y' → OG H H1 y (bs ++ encKs J.reds.length J.codes) y' → Q (.exit 6) t' (rdy H1)) : wpA Tryz.prog (.loop L12_4) Q t (rdy H) := by
  have hw := g0.wf
  refine loop_at (InvD4 H y bs J.reds.length J.codes t) J.codes.length ?_ ?_
  · exact ⟨0, y, by omega, rfl, rfl, rfl, t9, t14, by simpa [encKs] using Og.refl hw g0.own⟩
  rintro k t1 H1 ⟨i, y1, hik, u2, u3, u4, u9, u14, a1⟩
  rw [t3] at u3
  have hx := ok.xk
  have nk := ok.nk
  have on1 := OG.onF g0 a1
  have v1 := vJ.on hw0 on1
  have j1 : H1.load ⟨p, 10, none⟩ = some J.xk := v1.load 10
  have j2 : H1.load ⟨p, 2, none⟩ = some J.xr := v1.load 2
  obtain ⟨xa, xcc, hxl⟩ := hx.len
  obtain ⟨ra, rc, hrl⟩ := ok.xr.len
  have lxc : sLenL J.xk = some (iv J.codes.length) := by rw [hxl]; rfl
  have lxr : sLenL J.xr = some (iv J.reds.length) := by rw [hrl]; rfl
  have hel := flatMap_len (k := 36020) (J.codes.take i) (g := fun c => encU (codeB J.reds.length c).length ++ codeB J.reds.length c) (fun c hc => by
    have h1 := codeB_len J.reds.length c (hk c (List.mem_of_mem_take hc))
    have h2 := encU_len 9 (codeB J.reds.length c).length (by omega)
    rw [List.length_append]; omega)
  have htl : (J.codes.take i).length ≤ 50 := by rw [List.length_take]; omega
  have hwl : (bs ++ encKs J.reds.length (J.codes.take i)).length ≤ 110000000 := by unfold encKs; rw [List.length_append]; omega
  cases k with
  | zero =>
    have ei : i = J.codes.length := by omega
    rw [ei, List.take_length] at a1
    simp [L12_4, u3, j1, lxc, u14, ei]
    exact hE _ _ y1 (by simp [u2]) (by simp [u3]) (by simp [u4]) (by simp [u9]) a1
  | succ k =>
    have hi : i < J.codes.length := by omega
    have hiI : (i : Int) < (J.codes.length : Int) := by omega
    have e4 : IntKind.i64.wrap ((i : Int) + 1) = ((i + 1 : Nat) : Int) := by rw [w64 _ (by omega)]; omega
    obtain ⟨iN, hiN⟩ : ∃ z : Nat, z = i + 1 := ⟨_, rfl⟩
    rw [← hiN] at e4
    obtain ⟨e, he⟩ : ∃ e, e = J.codes[i] := ⟨_, rfl⟩
    have hem : e ∈ J.codes := by rw [he]; exact List.getElem_mem hi
    obtain ⟨b, off, c, z, hxb, ldx, hz⟩ := (hx.on hw0 on1).at hi
    rw [← he] at hz
    rw [hxb] at j1
    have hzE : Rws H1 6 z ((e.map toE).map E8.rowI) := by rw [toE_rows]; exact hz
    obtain ⟨v2, H2, T2, w, rfl, g2⟩ := E8.encodeR_T a1.wf hzE (fun q hq => by
      obtain ⟨q', hq', rfl⟩ := List.mem_map.1 hq
      exact ok.kinds e hem q' hq') (fun q hq => by
      obtain ⟨q', hq', rfl⟩ := List.mem_map.1 hq
      exact hk e hem q' hq') (J.reds.length : Int)
    have g2' : OG H1 H2 nilS (codeB J.reds.length e) w := g2
    have hcl := codeB_len J.reds.length e (hk e hem)
    have bw : Bs H2 w (codeB J.reds.length e) := E8.own_bs g2'.own
    obtain ⟨wa, wc, hwe⟩ := bw.len
    have nw : notTup w = true := by rw [hwe]; rfl
    have lw : sLenL w = some (iv (codeB J.reds.length e).length) := by rw [hwe]; rfl
    have b2 := E8.OG.beside a1 g2'.base g2'.next g2'.wf (E8.OG.olds g2')
    obtain ⟨v3, H3, T3, g3⟩ := ub_T b2.wf b2.own (n := (codeB J.reds.length e).length) (by omega) (by omega)
    have hul := encU_len 9 (codeB J.reds.length e).length (by omega)
    have hb : ∀ b, b < H2.next → blkOf w = some b → H3.blk b = H2.blk b := by
      intro b hb hwb
      refine g3.same b hb (fun hy => ?_)
      have h1 := a1.own.lt a1.wf hy
      rcases g2'.old b hwb with h | h
      · cases h
      · omega
    have bw3 : Bs H3 w (codeB J.reds.length e) := by
      rcases bw with h | ⟨b, off, c, he2, h⟩
      · exact .inl h
      · have hlt := g2'.own.lt g2'.wf (b := b) (by rw [he2]; rfl)
        refine .inr ⟨b, off, c, he2, fun i hi => ?_⟩
        rw [load_frame g3.base (hb b hlt (by rw [he2]; rfl))]
        exact h i hi
    obtain ⟨a', HA, ap, g4⟩ := E8.OG.pour g3.wf g3.own bw3.src (by simp only [List.length_append] at hwl ⊢; omega)
    obtain ⟨s, hs⟩ : ∃ s, s = Value.slice a' ((bs ++ encKs J.reds.length (J.codes.take i) ++ encU (codeB J.reds.length e).length).length + (codeB J.reds.length e).length) 0 := ⟨_, rfl⟩
    rw [← hs] at ap g4
    simp [L12_4, u3, j1, u14, hi, hiI, ldx, j2, lxr]
    refine goT_of T2 ?_
    simp [nw, u9, lw]
    refine goT_of T3 ?_
    simp [ap, u14, e4]
    refine ⟨k, by omega, iN, s, by omega, by simp [u2], by simp [u3, t3], by simp [u4], by simp, by simp, ?_⟩
    have e5 : encKs J.reds.length (J.codes.take iN) = encKs J.reds.length (J.codes.take i) ++ (encU (codeB J.reds.length e).length ++ codeB J.reds.length e) := by
      rw [hiN]
      unfold encKs
      rw [flatMap_take _ _ hi, ← he]
    rw [e5, ← List.append_assoc, ← List.append_assoc]
    exact b2.trans (g3.trans g4)
end Go.Proofs.YtnomffikflfilaaGreat
