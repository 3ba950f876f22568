/-
  Chapter 22: cleared. Chapter 22: the document's Into and New. Chapter 22: the document's New.
-/
import Derived.Test.YtjpdoflmjokplaaSeatN
namespace Go.Proofs.Ytjpdoflmjokplaa
open Go.Ot Go.RowKit
set_option linter.unusedSimpArgs false
set_option linter.unusedVariables false
theorem HP.setN {H : Heap} {lo hi p : Nat} {ops now : List Int} {many : Int} {xo xn : Value} (hw : H.WF) (h : HP H lo hi p ops now many xo xn) {i : Nat} (hi' : i < now.length) (v : Int) :
    ∃ b H2, xn = .slice (some ⟨b, 0, none⟩) now.length 0 ∧ H.store ⟨b, i, none⟩ (iv v) = some H2 ∧ HP H2 lo hi p ops (now.set i v) many xo xn ∧ H2.WF ∧ H2.base = H.base ∧ H2.next = H.next ∧ ∀ b, (b < lo ∨ hi ≤ b) → H2.blk b = H.blk b := by
  rcases h.on.2 with ⟨_, h0⟩ | ⟨b, rest, hxn, hB, hk⟩
  · omega
  · have hbn : blkOf xn = some b := by rw [hxn]; rfl
    have hr := h.rn b hbn
    have hbp : b ≠ p := fun e => h.pn (e ▸ hbn)
    refine ⟨b, H.put b (ci (now.set i v) ++ rest), hxn, ?_, ⟨h.hp, ?_, ?_, ?_, h.po, h.pn, h.xx, h.rp, h.ro, h.rn⟩, WF_put hw _ _, rfl, rfl, fun c hc => ?_⟩
    · rw [store_own hB hk, if_pos (by simp [ci]; omega), List.set_append_left _ _ (by simpa [ci] using hi')]
      simp [ci, List.map_set]
    · simp [hbp.symm, h.bp]
    · refine h.oo.keep rfl (fun c hc => ?_)
      have : c ≠ b := fun e => h.xx c hc (by rw [e]; exact hbn)
      simp [this]
    · exact ⟨by simp [ci], .inr ⟨b, rest, by rw [List.length_set]; exact hxn, hB, by simp [hk]⟩⟩
    · have : c ≠ b := by omega
      simp [this]
theorem HP.ld {H : Heap} {lo hi p : Nat} {ops now : List Int} {many : Int} {xo xn : Value} (h : HP H lo hi p ops now many xo xn) : H.load ⟨p, 0, none⟩ = some xo ∧ H.load ⟨p, 1, none⟩ = some xn := by
  constructor <;> rw [load_at h.hp h.bp] <;> rfl
def clrN (ops now : List Int) (i : Nat) : List Int := (ops.take i).map zeroV ++ now.drop i
theorem clrN_set {ops now : List Int} (h : now.length = ops.length) {i : Nat} (hi : i < ops.length) : (clrN ops now i).set i (zeroV ops[i]) = clrN ops now (i + 1) := by
  unfold clrN
  have hl : ((ops.take i).map zeroV).length = i := by simp; omega
  have e1 : (ops.take (i + 1)).map zeroV = (ops.take i).map zeroV ++ [zeroV ops[i]] := by
    rw [List.take_add_one, List.getElem?_eq_getElem hi, List.map_append]
    rfl
  have e2 : (now.drop i).set 0 (zeroV ops[i]) = zeroV ops[i] :: now.drop (i + 1) := by
    rw [List.drop_eq_getElem_cons (by omega : i < now.length)]
    rfl
  rw [List.set_append_right _ _ (by omega), hl, Nat.sub_self, e1, e2, List.append_assoc]
  rfl
def InvCl (H : Heap) (lo hi p : Nat) (ops now : List Int) (many : Int) (xo xn : Value) (k : Nat) (t : Tm) (H1 : Heap) : Prop :=
  ∃ i : Nat, i + k = ops.length ∧ t 0 = ptr p ∧ t 7 = xo ∧ t 8 = iv ops.length ∧ t 9 = iv i ∧ HP H1 lo hi p ops (clrN ops now i) many xo xn ∧ H1.WF ∧ H1.base = H.base ∧ H1.next = H.next ∧ ∀ b, (b < lo ∨ hi ≤ b) → H1.blk b = H.blk b
theorem hclear_T {H : Heap} (hw : H.WF) {lo hi p : Nat} {ops now : List Int} {many : Int} {xo xn : Value} (h : HP H lo hi p ops now many xo xn) (hl : now.length = ops.length) (hol : ops.length ≤ 1000) :
    ∃ v H', T Try.prog 44 [ptr p] H v H' ∧ HP H' lo hi p ops (ops.map zeroV) 0 xo xn ∧ H'.WF ∧ H'.base = H.base ∧ H'.next = H.next ∧ ∀ b, (b < lo ∨ hi ≤ b) → H'.blk b = H.blk b := by
  refine T_by hm light44 ?_
  obtain ⟨l0, l1⟩ := h.ld
  obtain ⟨ao, hxo⟩ := h.oo.len
  rw [hxo] at l0
  simp [L44, l0]
  rw [← hxo]
  refine loop_at (InvCl H lo hi p ops now many xo xn) ops.length ?_ ?_
  · exact ⟨0, by omega, by simp, by simp [hxo], by simp, by simp, by simpa [clrN] using h, hw, rfl, rfl, fun _ _ => rfl⟩
  · rintro k t H1 ⟨i, hik, t0, t7, t8, t9, h1, w1, b1, n1, k1⟩
    have hcl : (clrN ops now i).length = ops.length := by simp [clrN]; omega
    cases k with
    | zero =>
      have e1 : ¬ ((i : Int) < ops.length) := by omega
      have e2 : i = ops.length := by omega
      have e3 : clrN ops now i = ops.map zeroV := by
        unfold clrN
        rw [e2, List.take_length, List.drop_eq_nil_of_le (by omega), List.append_nil]
      rw [e3] at h1
      obtain ⟨HZ, hHZ⟩ : ∃ HZ, HZ = H1.put p [xo, xn, iv 0] := ⟨_, rfl⟩
      have st : H1.store ⟨p, 2, none⟩ (iv 0) = some HZ := by
        rw [store_own h1.hp h1.bp, if_pos (by simp), hHZ]
        rfl
      have kz : ∀ b, b ≠ p → HZ.blk b = H1.blk b := fun b hb => by rw [hHZ]; simp [hb]
      simp [L44_1, t8, t9, e1, t0, st]
      refine ⟨⟨?_, ?_, ?_, ?_, h1.po, h1.pn, h1.xx, h1.rp, h1.ro, h1.rn⟩, ?_, ?_, ?_, fun b hb => ?_⟩
      · rw [hHZ]; exact h1.hp
      · rw [hHZ]; simp [h1.bp]
      · exact h1.oo.keep (by rw [hHZ]; rfl) (fun b hb => kz b (fun e => h1.po (e ▸ hb)))
      · exact h1.on.keep (by rw [hHZ]; rfl) (fun b hb => kz b (fun e => h1.pn (e ▸ hb)))
      · rw [hHZ]; exact WF_put w1 _ _
      · rw [hHZ]; exact b1
      · rw [hHZ]; exact n1
      · have := h1.rp
        rw [kz b (by omega), k1 b hb]
    | succ k =>
      have hil : i < ops.length := by omega
      have e1 : ((i : Int) < ops.length) := by omega
      have e4 : IntKind.i64.wrap ((i : Int) + 1) = ((i + 1 : Nat) : Int) := by rw [w64 _ (by omega)]; omega
      have hset := clrN_set hl hil
      obtain ⟨iN, hiN⟩ : ∃ n : Nat, n = i + 1 := ⟨_, rfl⟩
      rw [← hiN] at e4 hset
      obtain ⟨bo, off, co, hob, ldo⟩ := (Own.ints (xs := ops) (k := .i64) (by simpa [ci] using h1.oo)).at hil
      obtain ⟨b, H2, hxn, st, h2, w2, b2, n2, k2⟩ := h1.setN w1 (i := i) (by rw [hcl]; exact hil) (zeroV ops[i])
      rw [hset] at h2
      obtain ⟨m0, m1⟩ := h1.ld
      rw [hcl] at hxn
      have hT := zero_T (H := H1) ops[i]
      have t7' := t7
      rw [hob] at t7
      rw [hxn] at m1
      simp [L44_1, t8, t9, e1, t7, hil, ldo, t0, m1]
      refine goT_of hT ?_
      simp [t0, m1, hil, st, t9, e4]
      exact ⟨k, by omega, iN, by omega, by simp [t0], by simp [t7'], by simp [t8], by simp, h2, w2, b2.trans b1, n2.trans n1, fun c hc => (k2 c hc).trans (k1 c hc)⟩
theorem lclear_T {H : Heap} {lo hi p q : Nat} {ops : List Int} {mr mw mo : Int} {d : LD} {x : LX} (hw : H.WF) (s : LS H lo hi p q ops mr mw mo d x) (hol : ops.length ≤ 1000) :
    ∃ v H' x', T Try.prog 14 [ptr p] H v H' ∧ LS H' lo hi p q ops mr mw mo ⟨[], [], [], ops.map zeroV, 0⟩ x' ∧ LA H H' lo hi p x x' := by
  have : ∃ v H', T Try.prog 14 [ptr p] H v H' ∧ ∃ x', LS H' lo hi p q ops mr mw mo ⟨[], [], [], ops.map zeroV, 0⟩ x' ∧ LA H H' lo hi p x x' := by
    refine T_by hm light14 ?_
    obtain ⟨H1, hH1⟩ : ∃ H1, H1 = H.put p [.slice none 0 0, x.xw, x.xo, ptr q, iv mr, iv mw, iv mo] := ⟨_, rfl⟩
    have bp1 : H1.blk p = some ⟨71, 7, [.slice none 0 0, x.xw, x.xo, ptr q, iv mr, iv mw, iv mo]⟩ := by rw [hH1]; simp [s.lg.bp]
    have s1 : H.store ⟨p, 0, none⟩ (.slice none 0 0) = some H1 := by
      rw [store_own s.lg.hp s.lg.bp, if_pos (by simp), hH1]; rfl
    obtain ⟨H2, hH2⟩ : ∃ H2, H2 = H1.put p [.slice none 0 0, .slice none 0 0, x.xo, ptr q, iv mr, iv mw, iv mo] := ⟨_, rfl⟩
    have hp1 : ¬ p < H1.B := by rw [hH1]; exact s.lg.hp
    have bp2 : H2.blk p = some ⟨71, 7, [.slice none 0 0, .slice none 0 0, x.xo, ptr q, iv mr, iv mw, iv mo]⟩ := by rw [hH2]; simp [bp1]
    have s2 : H1.store ⟨p, 1, none⟩ (.slice none 0 0) = some H2 := by
      rw [store_own hp1 bp1, if_pos (by simp), hH2]; rfl
    obtain ⟨H3, hH3⟩ : ∃ H3, H3 = H2.put p [.slice none 0 0, .slice none 0 0, .slice none 0 0, ptr q, iv mr, iv mw, iv mo] := ⟨_, rfl⟩
    have hp2 : ¬ p < H2.B := by rw [hH2]; exact hp1
    have bp3 : H3.blk p = some ⟨71, 7, [.slice none 0 0, .slice none 0 0, .slice none 0 0, ptr q, iv mr, iv mw, iv mo]⟩ := by rw [hH3]; simp [bp2]
    have s3 : H2.store ⟨p, 2, none⟩ (.slice none 0 0) = some H3 := by
      rw [store_own hp2 bp2, if_pos (by simp), hH3]; rfl
    have hp3 : ¬ p < H3.B := by rw [hH3]; exact hp2
    have b3 : H3.base = H.base := by rw [hH3, hH2, hH1]; rfl
    have n3 : H3.next = H.next := by rw [hH3, hH2, hH1]; rfl
    have w3 : H3.WF := by rw [hH3, hH2, hH1]; exact WF_put (WF_put (WF_put hw _ _) _ _) _ _
    have k3 : ∀ b, b ≠ p → H3.blk b = H.blk b := fun b hb => by rw [hH3, hH2, hH1]; simp [hb]
    have l3 : H3.load ⟨p, 3, none⟩ = some (ptr q) := by rw [load_at hp3 bp3]; rfl
    have hin : ∀ b, lo ≤ b → b < hi → b ≠ p := fun b h1 h2 e => by have := s.hpp; omega
    have h3 := s.hp.frame b3 (fun b h1 h2 => k3 b (hin b h1 h2))
    obtain ⟨v4, H4, hT, h4, w4, b4, n4, k4⟩ := hclear_T w3 h3 s.nl hol
    have kp : ∀ b, (b < lo ∨ hi ≤ b) → H4.blk b = H3.blk b := k4
    simp [L14, s1, s2, s3, l3]
    refine goT_of hT ?_
    simp
    refine ⟨⟨.slice none 0 0, .slice none 0 0, .slice none 0 0, x.xp, x.xn⟩, ⟨⟨by rw [B_eq (b4.trans b3)]; exact s.lg.hp, by rw [kp p s.hpp]; exact bp3, Own.nil _ _ _, Own.nil _ _ _, by simp, by simp, by simp⟩, Own.nil _ _ _, h4, by simp, by simp, fun b h => (by cases h), s.hpp, fun b h => (by cases h), fun b h => (by cases h), fun b h => (by cases h), by rw [n4, n3]; exact s.hi⟩, ⟨w4, b4.trans b3, by omega, fun b hb ho => ?_, ?_⟩⟩
    · have h1 : b ≠ p := fun e => ho (.inl e)
      have h2 : b < lo ∨ hi ≤ b := by
        by_cases h : b < lo
        · exact .inl h
        · right
          by_cases h2 : b < hi
          · exact absurd (.inr (.inr (.inr (.inr ⟨by omega, h2⟩)))) ho
          · omega
      rw [kp b h2, k3 b h1]
    · rintro b (h | h | h | h | h)
      · exact .inl (.inl h)
      · cases h
      · cases h
      · cases h
      · exact .inl (.inr (.inr (.inr (.inr h))))
  obtain ⟨v, H', hT, x', h1, h2⟩ := this
  exact ⟨v, H', x', hT, h1, h2⟩
end Go.Proofs.Ytjpdoflmjokplaa
namespace Go.Proofs.Ytjpdoflmjokplaa
open Go.Ot Go.RowKit
set_option linter.unusedSimpArgs false
set_option linter.unusedVariables false
theorem row2_len (l : List (Int × Int)) : (c2 l).length = l.length * 2 := by
  induction l with
  | nil => rfl
  | cons a l ih => simp [c2, row2] at ih ⊢; omega
theorem rws_src {H : Heap} {sz : Nat} {x : Value} {l : List (List Value)} (hs : ∀ r ∈ l, r.length = sz) (h : Rws H sz x l) : srcCells H sz x = some (l.length, l.flatten) := by
  rcases h with ⟨rfl, rfl⟩ | ⟨b, off, c, rfl, hh⟩
  · rfl
  · rw [srcCells_slice]
    have hfl := flatten_len hs
    by_cases hsz : sz = 0
    · subst hsz
      have : l.flatten = [] := List.length_eq_zero_iff.1 (by rw [hfl]; omega)
      rw [this]
      simp [Heap.loadN]
    · have := loadN_cells (H := H) (b := b) (off := off) (l := l.flatten) (i := 0) (fun j hj => by
        rw [hfl] at hj
        have hq : j / sz < l.length := by
          rw [Nat.div_lt_iff_lt_mul (by omega)]; exact hj
        have hm' : j % sz < sz := Nat.mod_lt _ (by omega)
        obtain ⟨h1, h2⟩ := hh (j / sz) hq
        have h3 := h2 (j % sz) (by rw [h1]; exact hm')
        have h4 := flatten_get hs hq (j := j % sz) (by rw [h1]; exact hm')
        have hjj : j / sz * sz + j % sz = j := by rw [Nat.mul_comm]; exact Nat.div_add_mod j sz
        rw [hjj] at h4
        have hjl : j < l.flatten.length := by rw [hfl]; exact hj
        rw [List.getElem?_eq_getElem hjl] at h4
        have : off + 0 + j = off + j / sz * sz + j % sz := by omega
        rw [this, h3]
        exact h4.symm)
      rw [hfl] at this
      rw [this]
      rfl
theorem refInto_T {H : Heap} (hw : H.WF) (d : DL) {rd is : List (Int × Int)} (hd : Twos H d.xd rd) (hx : Rws H 2 d.xi (is.map row2)) (c n : Int) (hl : is.length ≤ 1000) :
    ∃ v H', T Try.prog 36 [dA d, iv c, iv n] H v H' ∧ ∃ d2, v = .tuple #[dA d2, .bool (decide (0 ≤ c) && decide (c < rd.length))] ∧ Xt H H' ∧ Rws H' 2 d2.xi ((if 0 ≤ c ∧ c < rd.length then is ++ [(c, n)] else is).map row2) ∧ d2 = { d with xi := d2.xi } ∧ ∀ b, blkOf d2.xi = some b → blkOf d.xi = some b ∨ (H.next ≤ b ∧ b < H'.next) := by
  refine T_by hm light36 ?_
  have D := dv_new hw (dl d)
  obtain ⟨HD, hHD⟩ : ∃ HD, HD = (H.new 44 8 (dl d)).new 44 8 z8 := ⟨_, rfl⟩
  rw [← hHD] at D
  have hN : (H.new 44 8 (dl d)).new 44 8 [.int .i64 0, .int .i64 0, .int .i64 0, .slice none 0 0, .slice none 0 0, .slice none 0 0, .slice none 0 0, .slice none 0 0] = HD := hHD.symm
  have l3 : HD.load ⟨H.next, 3, none⟩ = some d.xd := D.v.load 3
  have l7 : HD.load ⟨H.next, 7, none⟩ = some d.xi := D.v.load 7
  obtain ⟨a, cc, hxd⟩ := hd.len
  rw [hxd] at l3
  have hxD := D.X.rws hx
  obtain ⟨d0, hd0⟩ : ∃ d0, d0 = dl d := ⟨_, rfl⟩
  have hda : dA d = .agg d0.toArray := by rw [hd0]
  by_cases hin : 0 ≤ c ∧ c < rd.length
  · have f1 : ¬ c < 0 := by omega
    have f2 : ¬ (rd.length : Int) ≤ c := by omega
    obtain ⟨y1, H2, y2, H3, ap1, hlt, on2, ap2, row⟩ := grow_row (ety := 103) (sz := 2) (bytes := 16) (n := is.length) (cells := (is.map row2).flatten) (row := row2 (c, n)) (x := d.xi) D.X.wf (by decide) (fun H' hb hk => by
      have := rws_src (by intro r hr; obtain ⟨q, _, rfl⟩ := List.mem_map.1 hr; rfl) (hxD.keep D.X.wf hb hk)
      rw [List.length_map] at this
      exact this) (row2_len is) rfl (by omega)
    obtain ⟨G3, G4, st, la, sa, lb, X4, own4, yb⟩ := D.part row 7 (by decide) { d with xi := y2 } rfl
    have hz0 : zerosA [iv 0, iv 0] 0 = [] := rfl
    have hz2 : zerosA [iv 0, iv 0] 2 = [iv 0, iv 0] := rfl
    obtain ⟨ai, ci', hxi⟩ := hx.len
    rw [List.length_map] at hxi
    have l7' : (HD.new 103 2 []).load ⟨H.next, 7, none⟩ = some d.xi := load_newN D.X.wf l7 _ _ _
    obtain ⟨d2, hd2⟩ : ∃ d2 : DL, d2 = { d with xi := y2 } := ⟨_, rfl⟩
    rw [← hd2] at la sa lb
    obtain ⟨ds, hds⟩ : ∃ ds, ds = dl d2 := ⟨_, rfl⟩
    rw [← hds] at la lb
    have hda2 : dA d2 = .agg ds.toArray := by rw [hds]
    rw [hda2] at sa
    rw [hda]
    rw [← hd0] at hN
    rw [hxi] at l7 l7' ap1
    have hnt : notTup y2 = true := by
      obtain ⟨a2, hy2⟩ := row.own.len
      rw [hy2]; rfl
    simp only [row2] at ap2
    simp [L36, hN, f1, l3, f2, hz0, hz2, l7, l7', ap1, ap2, st, hnt, la, sa, lb]
    refine ⟨by rw [hd0]; rfl, d2, ⟨hds, hin.1, hin.2⟩, X4, ?_, by rw [hd2], ?_⟩
    · rw [if_pos hin, hd2]
      have q1 : ((is ++ [(c, n)]).map row2).flatten = (is.map row2).flatten ++ row2 (c, n) := by simp
      refine Own.rws (ety := 103) (by intro r hr; obtain ⟨q, _, rfl⟩ := List.mem_map.1 hr; rfl) ?_
      rw [q1]
      have h1 : ((is ++ [(c, n)]).map row2).length = is.length + 1 := by simp
      rw [h1]
      exact own4
    · rw [hd2]
      intro b hb
      exact .inr (yb b hb)
  · obtain ⟨G, la, sa, lb, X⟩ := D.fin (by simp [dl]) rfl
    have hfin : ∀ bb : Bool, bb = false → (decide (0 ≤ c) && decide (c < rd.length)) = false := by
      intro _ _
      by_cases h1 : 0 ≤ c
      · have : ¬ c < rd.length := fun h => hin ⟨h1, h⟩
        simp [this]
      · simp [h1]
    have hff := hfin false rfl
    rw [hff, if_neg hin]
    rw [← hd0] at la sa lb
    rw [hda]
    rw [← hd0] at hN
    by_cases f1 : c < 0
    · simp [L36, hN, f1, la, sa, lb]
      exact ⟨by rw [hd0]; rfl, d, hd0, X, X.rws hx, rfl, fun b hb => .inl hb⟩
    · have f2 : (rd.length : Int) ≤ c := by
        by_cases h : c < rd.length
        · exact absurd ⟨by omega, h⟩ hin
        · omega
      simp [L36, hN, f1, l3, f2, la, sa, lb]
      exact ⟨by rw [hd0]; rfl, d, hd0, X, X.rws hx, rfl, fun b hb => .inl hb⟩
end Go.Proofs.Ytjpdoflmjokplaa
namespace Go.Proofs.Ytjpdoflmjokplaa
open Go.Ot Go.RowKit
set_option linter.unusedSimpArgs false
set_option linter.unusedVariables false
def newD (n1 n2 n3 : Int) (x : Value) : DL := ⟨n1, n2, n3, x, .slice none 0 0, .slice none 0 0, .slice none 0 0, .slice none 0 0⟩
theorem refNew_T {H : Heap} (hw : H.WF) (n1 n2 n3 : Int) {x : Value} {l : List (Int × Int)} (hx : Twos H x l) (hl : l.length ≤ 100000) :
    ∃ v H', T Try.prog 11 [iv n1, iv n2, iv n3, x] H v H' ∧ v = .tuple #[.agg (if newC n1 n2 n3 l = 0 then dl (newD n1 n2 n3 x) else z8).toArray, iv (newC n1 n2 n3 l)] ∧ Xt H H' := by
  refine T_by hm light11 ?_
  obtain ⟨HD, hHD⟩ : ∃ HD, HD = H.new 44 8 z8 := ⟨_, rfl⟩
  have X : Xt H HD := by rw [hHD]; exact (Xt.refl hw).new _ _ _
  have V : Vr HD H.next 44 8 z8 := by rw [hHD]; exact Vr.mk' hw _ _ _
  have hN : H.new 44 8 [.int .i64 0, .int .i64 0, .int .i64 0, .slice none 0 0, .slice none 0 0, .slice none 0 0, .slice none 0 0, .slice none 0 0] = HD := hHD.symm
  have fin : ∀ cs : List Value, cs.length = 8 → ∃ G, sStore HD 8 (ptr H.next) (.agg cs.toArray) = some G ∧ G.loadN ⟨H.next, 0, none⟩ 0 8 = some cs ∧ Xt H G :=
    fun cs hc => ⟨_, V.storeA (m := 8) (by decide) cs hc rfl, (V.put cs).loadA hc, X.put (Nat.le_refl _) _⟩
  obtain ⟨G0, s0, l0, X0⟩ := fin z8 rfl
  by_cases hbad : (badN n1 || badN n2 || badN n3) = true
  · have e : newC n1 n2 n3 l = 161 := by unfold newC; rw [if_pos hbad]
    rw [e, if_neg (by decide)]
    simp only [z8] at s0 l0 ⊢
    by_cases a1 : n1 < 1
    · simp [L11, hN, a1, s0, l0]; exact X0
    by_cases a2 : 64 < n1
    · simp [L11, hN, a1, a2, s0, l0]; exact X0
    by_cases b1 : n2 < 1
    · simp [L11, hN, a1, a2, b1, s0, l0]; exact X0
    by_cases b2 : 64 < n2
    · simp [L11, hN, a1, a2, b1, b2, s0, l0]; exact X0
    by_cases c1 : n3 < 1
    · simp [L11, hN, a1, a2, b1, b2, c1, s0, l0]; exact X0
    have c2 : 64 < n3 := by
      simp only [badN, a1, a2, b1, b2, c1, decide_false, Bool.false_or, Bool.or_false, decide_eq_true_eq] at hbad
      exact hbad
    simp [L11, hN, a1, a2, b1, b2, c1, c2, s0, l0]; exact X0
  · have e : newC n1 n2 n3 l = chkC l := by unfold newC; rw [if_neg hbad]
    rw [e]
    simp only [badN, Bool.or_eq_true, decide_eq_true_eq, not_or] at hbad
    obtain ⟨⟨⟨a1, a2⟩, b1, b2⟩, c1, c2⟩ := hbad
    have hxD : Twos HD x l := hx.keep hw X.base X.old
    have hT := check_T hxD hl
    by_cases h0 : chkC l = 0
    · obtain ⟨G1, s1, l1, X1⟩ := fin (dl (newD n1 n2 n3 x)) rfl
      rw [h0] at hT ⊢
      rw [if_pos rfl]
      obtain ⟨xa, xc, hxl⟩ := hx.len
      have hnt : notTup x = true := by rw [hxl]; rfl
      have hcx : x.cells = #[x] := by rw [hxl]; rfl
      simp only [dl, newD] at s1 l1 ⊢
      simp [L11, hN, a1, a2, b1, b2, c1, c2]
      refine goT_of hT ?_
      simp [hnt, hcx, s1, l1]
      exact X1
    · have hb : (chkC l == 0) = false := by simpa using h0
      have hb2 : (chkC l != 0) = true := by simpa using h0
      obtain ⟨ck, hck⟩ : ∃ ck, ck = chkC l := ⟨_, rfl⟩
      rw [← hck] at hT hb hb2 h0 ⊢
      rw [if_neg h0]
      simp only [z8] at s0 l0 ⊢
      simp [L11, hN, a1, a2, b1, b2, c1, c2]
      refine goT_of hT ?_
      simp [hb2, s0, l0]
      exact X0
end Go.Proofs.Ytjpdoflmjokplaa
