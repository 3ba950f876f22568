/-
  Chapter 8: a text's bytes, by the program; the example of the chapter.
-/
import Derived.Test.YtkocomnfomjfiaaSeatG
namespace Go.Proofs.Ytkocomnfomjfiaa
open Go.Ot Go.RowKit
set_option linter.unusedSimpArgs false
set_option linter.unusedVariables false
def encV (l : List In) : List Nat := encU l.length ++ encAll l
def encS (l : List In) (cells : Int) : List Nat := if (checkV l cells).2 = 0 then encV l else []
theorem encAll_append (a b : List In) : encAll (a ++ b) = encAll a ++ encAll b := by simp [encAll]
theorem encIns_len {x : In} {cells long : Int} (h : oneV x cells long = 0) (hk : okI x.k) : (encIns x).length ≤ 60 := by
  obtain ⟨hq, h1, h2⟩ := oks h
  have e1 := encU_len 9 x.kind.toNat (by omega)
  have e2 := encPs_len hq
  have e3 : (pairs (shp x.kind) x).length = 4 := rfl
  have hz := zz_lt hk
  have e4 := encU_len 9 (zz x.k) (by omega)
  unfold encIns
  rw [List.length_append, List.length_append]
  split
  · omega
  · simp; omega
theorem encAll_len {l : List In} {cells long : Int} (h : ∀ x ∈ l, oneV x cells long = 0 ∧ okI x.k) : (encAll l).length ≤ 60 * l.length := by
  induction l with
  | nil => simp [encAll]
  | cons a l ih =>
    have h1 := ih (fun x hx => h x (by simp [hx]))
    have h2 := h a (by simp)
    have h3 := encIns_len h2.1 h2.2
    have e : encAll (a :: l) = encIns a ++ encAll l := by simp [encAll]
    rw [e, List.length_append, List.length_cons]; omega
theorem fst_none : ∀ (cells long : Int) (l : List In) (i : Nat), fstBad cells long l i = none → ∀ x ∈ l, oneV x cells long = 0
  | cells, long, [], i, _, x, hx => by cases hx
  | cells, long, a :: l, i, h, x, hx => by
    simp only [fstBad] at h
    split at h
    · rename_i h0
      rcases List.mem_cons.1 hx with rfl | hx
      · exact h0
      · exact fst_none cells long l (i + 1) h x hx
    · cases h
theorem fst_some : ∀ (cells long : Int) (l : List In) (i j : Nat) (e : Int), fstBad cells long l i = some (j, e) → e ≠ 0
  | cells, long, [], i, j, e, h => by cases h
  | cells, long, a :: l, i, j, e, h => by
    simp only [fstBad] at h
    split at h
    · exact fst_some cells long l (i + 1) j e h
    · rename_i h0
      simp only [Option.some.injEq, Prod.mk.injEq] at h
      rw [← h.2]; exact h0
theorem check_ok {l : List In} {cells : Int} (h : (checkV l cells).2 = 0) : (∀ x ∈ l, oneV x cells l.length = 0) ∧ 0 < l.length ∧ l.length ≤ 600 := by
  unfold checkV at h
  by_cases h0 : l.length = 0 ∨ 600 < l.length
  · rw [if_pos h0] at h; cases h
  · rw [if_neg h0] at h
    cases hf : fstBad cells l.length l 0 with
    | none => exact ⟨fst_none _ _ _ _ hf, by omega, by omega⟩
    | some p =>
      obtain ⟨i, e⟩ := p
      rw [hf] at h
      exact absurd h (fst_some _ _ _ _ _ _ hf)
def InvEn (H : Heap) (p : Nat) (xl : Value) (l : List In) (cells : Int) (k : Nat) (t : Tm) (H1 : Heap) : Prop :=
  ∃ (i : Nat) (x' : Value), i + k = l.length ∧ t 0 = xl ∧ t 1 = iv cells ∧ t 8 = ptr p ∧ t 30 = xl ∧ t 31 = iv (l.length : Nat) ∧ t 32 = iv i ∧ AF H H1 p (.slice none 0 0) (encU l.length ++ encAll (l.take i)) x'
theorem encode_T {H : Heap} (hw : H.WF) {xl : Value} {l : List In} (hx : Rws H 6 xl (l.map rowI)) (hk : ∀ a ∈ l, okI a.k) (cells : Int) :
    ∃ v H', T Try.prog 18 [xl, iv cells] H v H' ∧ ∃ y, v = .tuple #[y, iv (checkV l cells).2] ∧ OG H H' (.slice none 0 0) (encS l cells) y := by
  refine T_by hm light18 ?_
  obtain ⟨xa, xc, hxl⟩ := hx.len
  rw [List.length_map] at hxl
  obtain ⟨v1, H1, T1, rfl, s1⟩ := check_T hw hx cells
  have w1 := T1.grow.wf hw
  have n1 := T1.grow.next
  have o1 : ∀ b, b < H.next → H1.blk b = H.blk b := fun b hb => s1 b hb (by simp)
  obtain ⟨e, he⟩ : ∃ e, e = (checkV l cells).2 := ⟨_, rfl⟩
  obtain ⟨w, hwc⟩ : ∃ w, w = (checkV l cells).1 := ⟨_, rfl⟩
  rw [← he, ← hwc] at T1
  rw [← he]
  unfold encS
  rw [← he]
  rw [hxl] at T1 ⊢
  by_cases h0 : e = 0
  case neg =>
    have h0' : (e != 0) = true := by simp [h0]
    rw [if_neg h0]
    simp [L18]
    refine goT_of T1 ?_
    simp [h0', packV]
    have := Og.refl w1 (Own.nil H1 5 1)
    exact ⟨T1.1, n1, w1, by simpa [bc] using Own.nil H1 5 1, fun b hb _ => o1 b hb, fun b hb => by cases hb⟩
  rw [if_pos h0]
  rw [he] at h0
  obtain ⟨hok, hlp, hlm⟩ := check_ok h0
  rw [← he] at h0
  have h0' : (e != 0) = false := by simp [h0]
  have W0 := new_WR w1
  have w0 : (H1.new 89 1 [.slice none 0 0]).WF := WF_new w1 _ _ _
  obtain ⟨H2, hH2⟩ : ∃ H2, H2 = H1.new 89 1 [.slice none 0 0] := ⟨_, rfl⟩
  have T2 := new_T w1
  rw [← hH2] at T2 W0 w0
  have b2 : H2.base = H.base := by rw [hH2]; exact T1.1
  have n2 : H2.next = H1.next + 1 := by rw [hH2]; rfl
  have o2 : ∀ b, b < H.next → H2.blk b = H.blk b := fun b hb => by rw [hH2]; simp [show b ≠ H1.next by omega]; exact o1 b hb
  obtain ⟨v3, H3, T3, x3, a3⟩ := uint_T w0 W0 (n := l.length) (by omega) (by simp)
  have c1 : IntKind.u64.wrap (l.length : Int) = (l.length : Int) := wu64 _ (by omega)
  rw [List.nil_append] at a3
  simp [L18]
  refine goT_of T1 ?_
  simp [h0']
  refine goT_of T2 ?_
  simp [c1]
  refine goT_of T3 ?_
  simp
  rw [← hxl]
  refine loop_at (InvEn H2 H1.next xl l cells) l.length ?_ ?_
  · exact ⟨0, x3, by omega, by simp [hxl], by simp, by simp, by simp, by simp, by simp, by simpa [encAll] using a3⟩
  · rintro k t G ⟨i, x', hik, t0, t1, t8, t30, t31, t32, a⟩
    have nG := a.next
    have oG : ∀ b, b < H.next → G.blk b = H.blk b := fun b hb => (a.same b (by omega) (by omega) (by simp)).trans (o2 b hb)
    have hlen : ∀ i, (encAll (l.take i)).length ≤ 60 * 600 := by
      intro i
      have := encAll_len (l := l.take i) (cells := cells) (long := l.length) (fun x hx => ⟨hok x (List.mem_of_mem_take hx), hk x (List.mem_of_mem_take hx)⟩)
      have h3 : (l.take i).length ≤ 600 := by simp; omega
      exact Nat.le_trans this (Nat.mul_le_mul_left _ h3)
    have hul := encU_len 9 l.length (by omega)
    cases k with
    | zero =>
      have ei : i = l.length := by omega
      subst ei
      have hl := hlen l.length
      rw [List.take_length] at a hl
      have hbbl : (encU l.length ++ encAll l).length ≤ 100000 := by rw [List.length_append]; omega
      have hev : encV l = encU l.length ++ encAll l := rfl
      rw [hev]
      obtain ⟨bb, hbb⟩ : ∃ bb, bb = encU l.length ++ encAll l := ⟨_, rfl⟩
      rw [← hbb] at a hbbl ⊢
      obtain ⟨v4, H4, T4, o4, f4, s4⟩ := bytes_T a.wf a.wr (by omega)
      obtain ⟨va, hva⟩ := o4.len
      rw [L18_2_eq]
      simp [t31, t32]
      refine goT_of (by rw [t8]; exact T4) ?_
      subst hva
      simp [packV, h0]
      have n4 := T4.grow.next
      refine ⟨T4.1.trans (a.base.trans b2), by omega, T4.grow.wf a.wf, o4, ?_, ?_⟩
      · intro b hb _
        rw [s4 b (by omega) (by simp)]
        exact oG b hb
      · intro b hb
        have := f4 b hb
        exact .inr (by omega)
    | succ k =>
      have hi : i < l.length := by omega
      obtain ⟨b, off, c, hxs, hrl, ld, _⟩ := (hx.keep hw (a.base.trans b2) oG).at (i := i) (by simpa using hi)
      simp only [List.getElem_map, List.length_map] at hxs hrl ld
      have e3 : IntKind.i64.wrap ((i : Int) + 1) = ((i + 1 : Nat) : Int) := by rw [w64 _ (by omega)]; omega
      obtain ⟨i1, hi1⟩ : ∃ i1, i1 = i + 1 := ⟨_, rfl⟩
      rw [← hi1] at e3
      obtain ⟨q, hq⟩ : ∃ q, q = l[i] := ⟨_, rfl⟩
      have hmem : q ∈ l := by rw [hq]; exact List.getElem_mem hi
      have hqo := hok q hmem
      have hqk := hk q hmem
      rw [← hq] at ld
      obtain ⟨okp, k1, k2⟩ := oks hqo
      have en : encAll (l.take i1) = encAll (l.take i) ++ encIns q := by rw [hi1, List.take_succ_eq_append_getElem hi, encAll_append, hq]; simp [encAll]
      have hli := hlen i
      -- the instruction's own variable
      have stx := new_storeA a.wf 25 6 [.int .i64 0, .int .i64 0, .int .i64 0, .int .i64 0, .int .i64 0, .int .i64 0] (rowI q) rfl rfl (by decide)
      have lx4 := new_load a.wf 25 6 (rowI q)
      obtain ⟨H4, hH4⟩ : ∃ H4, H4 = G.new 25 6 (rowI q) := ⟨_, rfl⟩
      have w4 : H4.WF := by rw [hH4]; exact WF_new a.wf _ _ _
      have n4 : H4.next = G.next + 1 := by rw [hH4]; rfl
      have a4 : AF H2 H4 H1.next (.slice none 0 0) (encU l.length ++ encAll (l.take i)) x' := a.beside (by rw [hH4]; rfl) (by omega) w4 (fun b hb => by rw [hH4]; simp [show b ≠ G.next by omega])
      rw [← hH4] at stx lx4
      have x'lt : ∀ b, blkOf x' = some b → b < G.next := fun b hb => a.wr.own.lt a.wf hb
      have offx : Off H4 H1.next x' G.next := ⟨by omega, by omega, fun e => by have := x'lt _ e; omega⟩
      -- its shape
      obtain ⟨v5, H5, T5, rfl, s5⟩ := shape_T w4 q.kind
      have w5 := T5.grow.wf w4
      have n5 := T5.grow.next
      obtain ⟨sh, hsh⟩ : ∃ sh, sh = shp q.kind := ⟨_, rfl⟩
      obtain ⟨va, hva⟩ : ∃ va, va = valid q.kind := ⟨_, rfl⟩
      rw [← hsh, ← hva] at T5
      have st6 := new_storeA w5 53 8 [.bool false, .bool false, .bool false, .bool false, .bool false, .bool false, .bool false, .bool false] (rowS sh) rfl rfl (by decide)
      have ls6 := new_load w5 53 8 (rowS sh)
      obtain ⟨H6, hH6⟩ : ∃ H6, H6 = H5.new 53 8 (rowS sh) := ⟨_, rfl⟩
      have w6 : H6.WF := by rw [hH6]; exact WF_new w5 _ _ _
      have n6 : H6.next = H5.next + 1 := by rw [hH6]; rfl
      rw [← hH6] at st6 ls6
      have k6 : ∀ b, b < H4.next → H6.blk b = H4.blk b := fun b hb => by rw [hH6]; simp [show b ≠ H5.next by omega]; exact s5 b hb (by simp)
      have b6 : H6.base = H4.base := by rw [hH6]; exact T5.1
      have a6 := a4.beside b6 (by omega) w6 k6
      have lx6 : ∀ j, H6.load ⟨G.next, j, none⟩ = (rowI q)[j]? := fun j => by rw [load_frame b6 (k6 _ (by omega))]; exact lx4 j
      have offx6 : Off H6 H1.next x' G.next := ⟨by omega, offx.2⟩
      have offs6 : Off H6 H1.next x' H5.next := ⟨by omega, by omega, fun e => by have := x'lt _ e; omega⟩
      -- its kind
      have ck : IntKind.u64.wrap q.kind = ((q.kind.toNat : Nat) : Int) := by rw [wu64 _ (by omega)]; omega
      obtain ⟨v7, H7, T7, x7, a7⟩ := uint_T a6.wf a6.wr (n := q.kind.toNat) (by omega) (by rw [List.length_append]; omega)
      obtain ⟨kn, hkn⟩ : ∃ kn, kn = q.kind.toNat := ⟨_, rfl⟩
      rw [← hkn] at ck T7 a7
      obtain ⟨offx7, kx7⟩ := offx6.af a7
      obtain ⟨offs7, ks7⟩ := offs6.af a7
      have lx7 : ∀ j, H7.load ⟨G.next, j, none⟩ = (rowI q)[j]? := fun j => by rw [load_frame a7.base kx7]; exact lx6 j
      have ls7 : ∀ j, H7.load ⟨H5.next, j, none⟩ = (rowS sh)[j]? := fun j => by rw [load_frame a7.base ks7]; exact ls6 j
      -- the parts' row
      obtain ⟨H8, hH8⟩ : ∃ H8, H8 = H7.new 64 2 (flatP (pairs sh q)) := ⟨_, rfl⟩
      have w8 : H8.WF := by rw [hH8]; exact WF_new a7.wf _ _ _
      have n8 : H8.next = H7.next + 1 := by rw [hH8]; rfl
      have a78 := a7.beside (H2 := H8) (by rw [hH8]; rfl) (by omega) w8 (fun b hb => by rw [hH8]; simp [show b ≠ H7.next by omega])
      have x7lt : ∀ b, blkOf x7 = some b → b < H7.next := fun b hb => a7.wr.own.lt a7.wf hb
      have offx8 : Off H8 H1.next x7 G.next := ⟨by have := offx7.1; omega, offx7.2⟩
      have offs8 : Off H8 H1.next x7 H5.next := ⟨by have := offs7.1; omega, offs7.2⟩
      have offy8 : Off H8 H1.next x7 H7.next := ⟨by omega, by have := offx7.1; omega, fun e => by have := x7lt _ e; omega⟩
      have rows8 : H8.blk H7.next = some ⟨64, 2, flatP (pairs sh q)⟩ := by rw [hH8]; simp
      have hB8 : ¬ H7.next < H8.B := by rw [hH8]; exact a7.wf.next_ge
      obtain ⟨bs7, hbs7⟩ : ∃ bs7, bs7 = encU l.length ++ encAll (l.take i) ++ encU kn := ⟨_, rfl⟩
      rw [← hbs7] at a7 a78
      have hbl : bs7.length ≤ 100000 := by
        have := encU_len 9 kn (by omega)
        rw [hbs7]; simp only [List.length_append]; omega
      rw [L18_2_eq]
      have lk4 : H4.load ⟨G.next, 0, none⟩ = some (iv q.kind) := lx4 0
      have lk6 : H6.load ⟨G.next, 0, none⟩ = some (iv q.kind) := lx6 0
      simp [t30, t31, t32, hxs, hi, ld, stx, lk4]
      refine goT_of T5 ?_
      simp [st6, t8, lk6, ck]
      refine goT_of T7 ?_
      simp
      refine g18_w (H := H7) (bx := G.next) (bs := H5.next) (x := q) (s := sh) (by simp) (by simp) lx7 ls7 (fun t' kp t75 t76 t77 => ?_)
      rw [← hH8]
      obtain ⟨p0, p1, p8, p10, p11, p30, p31, p32⟩ := kp
      simp at p0 p1 p8 p10 p11 p30 p31 p32
      simp
      refine pairs_w (H := H8) (p := H1.next) (x0 := x7) (bs := bs7) (l := pairs sh q) (S := Kp t') (Kp.keeps t') ?_ (by rw [hsh]; exact okp) ?_ ⟨rfl, rfl, rfl, rfl, rfl, rfl, rfl, rfl⟩ (p8.trans t8) t75 t76 t77 a78.wr w8 (fun t2 H9 x9 kp2 q8 a9 => ?_)
      · have : (pairs sh q).length = 4 := rfl
        omega
      · intro H9 x9 bs9 a9
        obtain ⟨off9, k9⟩ := offy8.af a9
        have o9 : Own H9 64 2 4 (flatP (pairs sh q)) (sl H7.next 4) := Own.mk rfl (by rw [B_eq a9.base]; exact hB8) (by rw [k9]; exact rows8)
        exact Own.rws (ety := 64) (l := (pairs sh q).map pairR) (by intro r hr; obtain ⟨z, _, rfl⟩ := List.mem_map.1 hr; rfl) o9
      obtain ⟨r0, r1, r8, r10, r11, r30, r31, r32⟩ := kp2
      obtain ⟨offx9, kx9⟩ := offx8.af a9
      obtain ⟨offs9, ks9⟩ := offs8.af a9
      have kx8 : H8.blk G.next = H7.blk G.next := by rw [hH8]; simp [show G.next ≠ H7.next by have := offx7.1; omega]
      have ks8 : H8.blk H5.next = H7.blk H5.next := by rw [hH8]; simp [show H5.next ≠ H7.next by have := offs7.1; omega]
      have b97 : H9.base = H7.base := a9.base.trans (by rw [hH8]; rfl)
      have lk9 : H9.load ⟨G.next, 5, none⟩ = some (iv q.k) := by rw [load_frame b97 (kx9.trans kx8)]; exact lx7 5
      have ls9 : H9.load ⟨H5.next, 4, none⟩ = some (.bool sh.k) := by rw [load_frame b97 (ks9.trans ks8)]; exact ls7 4
      have aAll := (a6.trans a78).trans a9
      have hpl := encPs_len okp
      rw [← hsh] at hpl
      have hp4 : (pairs sh q).length = 4 := rfl
      have g10 : t2 10 = ptr G.next := r10.trans p10
      have g11 : t2 11 = ptr H5.next := r11.trans p11
      have g8 : t2 8 = ptr H1.next := q8
      have g0 : t2 0 = xl := (r0.trans p0).trans t0
      have g1 : t2 1 = iv cells := (r1.trans p1).trans t1
      have g30 : t2 30 = xl := (r30.trans p30).trans t30
      have g31 : t2 31 = iv (l.length : Nat) := (r31.trans p31).trans t31
      have g32 : t2 32 = iv i := (r32.trans p32).trans t32
      cases hkk : sh.k with
      | false =>
        rw [hkk] at ls9
        simp [g11, ls9, g32, e3]
        rw [← hxs]
        refine ⟨k, Nat.lt_succ_self k, i1, x9, by omega, by simp [g0], by simp [g1], by simp [g8], by simp [g30], by simp [g31], by simp, ?_⟩
        have ei : encIns q = encU kn ++ encPs (pairs sh q) := by unfold encIns; rw [← hsh, ← hkn, hkk]; simp
        rw [en, ei]
        have := aAll
        rw [hbs7] at this
        simp only [List.append_assoc] at this ⊢
        exact this
      | true =>
        rw [hkk] at ls9
        obtain ⟨v10, H10, T10, x10, a10⟩ := int_T aAll.wf aAll.wr hqk (by rw [List.length_append]; omega)
        simp [g8, g10, g11, ls9, lk9]
        refine goT_of T10 ?_
        simp [g32, e3]
        rw [← hxs]
        refine ⟨k, Nat.lt_succ_self k, i1, x10, by omega, by simp [g0], by simp [g1], by simp [g8], by simp [g30], by simp [g31], by simp, ?_⟩
        have ei : encIns q = encU kn ++ encPs (pairs sh q) ++ encU (zz q.k) := by unfold encIns; rw [← hsh, ← hkn, hkk]; simp
        rw [en, ei]
        have := aAll.trans a10
        rw [hbs7] at this
        simp only [List.append_assoc] at this ⊢
        exact this
end Go.Proofs.Ytkocomnfomjfiaa
