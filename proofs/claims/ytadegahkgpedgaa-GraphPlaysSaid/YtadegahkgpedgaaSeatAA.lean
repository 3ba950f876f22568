/-
  Chapter 23: GraphPlays.
-/
import Derived.Test.YtadegahkgpedgaaSeatZ
namespace Go.Proofs.Ytadegahkgpedgaa
open Go.Ot Go.RowKit
set_option linter.unusedSimpArgs false
set_option linter.unusedVariables false
theorem GP.on {H H1 H2 : Heap} {p rb : Nat} {room : Int} {L U : List Ed} {x xr : Value} (g : GP H H1 p rb room L U x xr) (o : On H1 H2) : GP H H2 p rb room L U x xr :=
  ⟨g.gr.keep g.wf o.base o.keep, g.ur.on g.wf o, g.perm, g.val, o.wf, o.base.trans g.base, g.pn, fun b hb => by
    have h1 := g.pn
    have h2 := g.wf.lt g.gr.bp
    rw [o.keep b (by omega), g.keep b hb], by rw [o.keep _ (g.wf.lt g.brb)]; exact g.brb, g.rn, g.rp, g.xrb, g.xn, fun b hb => ⟨(g.sep b hb).1, (g.sep b hb).2.1, Nat.lt_of_lt_of_le (g.sep b hb).2.2.1 o.next, (g.sep b hb).2.2.2⟩⟩
theorem GP.rl {H H1 : Heap} {p rb : Nat} {room : Int} {L U : List Ed} {x xr : Value} (hw : H.WF) (g : GP H H1 p rb room L U x xr) : H1.loadN ⟨rb, 0, none⟩ 0 2 = some (rv room xr) ∧ H1.load ⟨rb, 1, none⟩ = some xr := by
  have hB : ¬ rb < H1.B := by
    have := hw.next_ge
    have := g.rn
    rw [B_eq g.base]; omega
  exact ⟨by rw [loadN_at hB g.brb (by simp [rv])]; rfl, by rw [load_at hB g.brb]; rfl⟩
def InvCE (H : Heap) (ea eb : Value) (L : List Ed) (t0 : Tm) (k : Nat) (t : Tm) (H1 : Heap) : Prop :=
  ∃ i, i + k = L.length ∧ t 1 = t0 1 ∧ t 2 = t0 2 ∧ t 7 = t0 7 ∧ t 9 = t0 9 ∧ t 11 = t0 11 ∧ t 14 = ea ∧ t 15 = eb ∧ t 16 = iv i ∧ H1 = H
theorem loopE {H : Heap} {ea eb : Value} {L : List Ed} (ha : Rws H 2 ea (L.map edv)) (hb : Rws H 2 eb (L.map edv)) (hL : L.length ≤ 100000) {Q : Exit → Tm → Heap → Prop} {t : Tm} (t14 : t 14 = ea) (t15 : t 15 = eb) (t16 : t 16 = iv 0)
    (hQ : ∀ t9, t9 1 = t 1 → t9 2 = t 2 → t9 7 = t 7 → t9 9 = t 9 → t9 11 = t 11 → Q (.exit 2) t9 (rdy H)) : wpA Try.prog (.loop L5_1) Q t (rdy H) := by
  refine loop_at (InvCE H ea eb L t) L.length ?_ ?_
  · exact ⟨0, by omega, rfl, rfl, rfl, rfl, rfl, t14, t15, t16, rfl⟩
  · rintro k tt H1 ⟨i, hik, u1, u2, u7, u9, u11, u14, u15, u16, rfl⟩
    obtain ⟨a1, c1, h1⟩ := ha.len
    rw [List.length_map] at h1
    cases k with
    | zero =>
      have e1 : ¬ ((i : Int) < L.length) := by omega
      have hq := fun (t9 : Tm) (h1 : t9 1 = tt 1) (h2 : t9 2 = tt 2) (h7 : t9 7 = tt 7) (h9 : t9 9 = tt 9) (h11 : t9 11 = tt 11) => hQ t9 (h1.trans u1) (h2.trans u2) (h7.trans u7) (h9.trans u9) (h11.trans u11)
      rw [h1] at u14
      simp [L5_1, u16, u14, e1]
      exact hq _ (by simp) (by simp) (by simp) (by simp) (by simp)
    | succ k =>
      have hil : i < L.length := by omega
      have e1 : ((i : Int) < L.length) := by omega
      have e4 : IntKind.i64.wrap ((i : Int) + 1) = ((i + 1 : Nat) : Int) := by rw [w64 _ (by omega)]; omega
      obtain ⟨iN, hiN⟩ : ∃ n : Nat, n = i + 1 := ⟨_, rfl⟩
      rw [← hiN] at e4
      obtain ⟨b1, o1, d1, ea1, l10, l11⟩ := row_edges ha hil
      obtain ⟨b2, o2, d2, eb1, l20, l21⟩ := row_edges hb hil
      have u14' := u14
      have u15' := u15
      rw [ea1] at u14
      rw [eb1] at u15
      simp [L5_1, u16, u14, u15, e1, hil, l10, l11, l20, l21, e4]
      exact ⟨k, by omega, iN, by omega, by simp [u1], by simp [u2], by simp [u7], by simp [u9], by simp [u11], by simp [u14'], by simp [u15'], by simp, rfl⟩
def Inv52 (H : Heap) (y : Value) (l : List Op) (age : Int) (p rb : Nat) (room : Int) (k : Nat) (t : Tm) (H1 : Heap) : Prop :=
  ∃ i L U x xr, i + k = l.length ∧ t 1 = y ∧ t 2 = iv age ∧ t 7 = ptr p ∧ t 9 = ptr rb ∧ t 11 = iv i ∧ L.length ≤ i ∧ GP H H1 p rb room L U x xr
theorem plays_loop {H H1 : Heap} (hw : H.WF) {y : Value} {l : List Op} {age : Int} {p rb : Nat} {room : Int} {x xr : Value} (hy : Rws H 3 y (l.map Op.cells)) (hl : l.length ≤ 80) (hg : GP H H1 p rb room [] [] x xr) {Q : Exit → Tm → Heap → Prop} {t : Tm}
    (t1 : t 1 = y) (t2 : t 2 = iv age) (t7 : t 7 = ptr p) (t9 : t 9 = ptr rb) (t11 : t 11 = iv 0)
    (hQ : ∀ tt H9, H9.WF → Q (.exit 0) tt (rdy H9)) : wpA Try.prog (.loop L5_2) Q t (rdy H1) := by
  refine loop_at (Inv52 H y l age p rb room) l.length ?_ ?_
  · exact ⟨0, [], [], x, xr, by omega, t1, t2, t7, t9, t11, by simp, hg⟩
  · rintro k tt H2 ⟨i, L, U, x, xr, hik, u1, u2, u7, u9, u11, hLi, g2⟩
    obtain ⟨ay, cy, hyl⟩ := hy.len
    rw [List.length_map] at hyl
    cases k with
    | zero =>
      have e1 : ¬ ((i : Int) < l.length) := by omega
      rw [hyl] at u1
      simp [L5_2, u11, u1, e1]
      exact hQ _ H2 g2.wf
    | succ k =>
      have hil : i < l.length := by omega
      have e1 : ((i : Int) < l.length) := by omega
      have e4 : IntKind.i64.wrap ((i : Int) + 1) = ((i + 1 : Nat) : Int) := by rw [w64 _ (by omega)]; omega
      obtain ⟨iN, hiN⟩ : ∃ n : Nat, n = i + 1 := ⟨_, rfl⟩
      rw [← hiN] at e4
      have hUl := g2.perm.length_eq
      obtain ⟨b, off, c2, hyb, _, hld, _⟩ := (hy.keep hw g2.base g2.keep).at (i := i) (by simpa using hil)
      rw [List.getElem_map] at hld
      rw [List.length_map] at hyb
      obtain ⟨o, ho⟩ : ∃ o, o = l[i] := ⟨_, rfl⟩
      rw [← ho] at hld
      obtain ⟨lr2, -⟩ := g2.rl hw
      obtain ⟨v, H3, hT, ⟨xr', ok, x3, L3, rfl, hok, gr3, hp3, ur3, hs3, hn3, aft⟩⟩ := one_T g2.wf g2.gr g2.ur (fun b hb => ⟨(g2.sep b hb).1, (g2.sep b hb).2.1, (g2.sep b hb).2.2.1⟩) o (by omega) (by omega)
      have hokt := hok g2.perm
      subst hokt
      have hLl3 := hp3.length_eq
      have hLo := opU_len L room o
      obtain ⟨U3, hU3⟩ : ∃ U3, U3 = opU U room o := ⟨_, rfl⟩
      rw [← hU3] at ur3
      obtain ⟨H4, st4, g4⟩ := g2.step hw o gr3 hp3 hU3 ur3 hs3 hn3 aft
      have hUl3 := g4.perm.length_eq
      -- the call, kept
      obtain ⟨b', off', c2', hyb', _, hld4, _⟩ := (hy.keep hw g4.base g4.keep).at (i := i) (by simpa using hil)
      rw [List.getElem_map, ← ho] at hld4
      rw [List.length_map] at hyb'
      have st5 := new_storeA g4.wf 42 3 [iv 0, iv 0, iv 0] o.cells rfl rfl (by decide)
      obtain ⟨H5, hH5⟩ : ∃ H5, H5 = H4.new 42 3 o.cells := ⟨_, rfl⟩
      rw [← hH5] at st5
      have on5 : On H4 H5 := by rw [hH5]; exact (On.refl g4.wf).new _ _ _
      have g5 := g4.on on5
      have n5 : H5.next = H4.next + 1 := by rw [hH5]; simp
      have h4B := g4.wf.next_ge
      have k5 : H5.blk H4.next = some ⟨42, 3, o.cells⟩ := by rw [hH5]; simp
      have box : ∀ H9 : Heap, On H5 H9 → H9.load ⟨H4.next, 1, none⟩ = some (iv o.r) ∧ H9.load ⟨H4.next, 2, none⟩ = some (iv o.w) := by
        intro H9 o9
        have hb : ¬ H4.next < H9.B := by rw [B_eq (o9.base.trans on5.base)]; exact h4B
        have hk : H9.blk H4.next = some ⟨42, 3, o.cells⟩ := by rw [o9.keep _ (by omega)]; exact k5
        exact ⟨by rw [load_at hb hk]; rfl, by rw [load_at hb hk]; rfl⟩
      have hff : ∀ e ∈ L3, -9223372036854775808 ≤ e.1 := fun e he => by have := g4.val e he; omega
      have hvv : ∀ e ∈ L3, e.2 < e.1 := fun e he => (g4.val e he).2
      -- all the calls
      have C1 := len_T g5.gr
      have C2 := phas_T g5.wf g5.gr o.r o.w
      have C3 := rhas_T (room := room) g5.wf g5.ur o.r o.w (by omega)
      have hmem : decide ((o.r, o.w) ∈ U3) = decide ((o.r, o.w) ∈ L3) := by
        have := g5.perm.mem_iff (a := (o.r, o.w))
        by_cases h : (o.r, o.w) ∈ L3
        · simp [h, this.1 h]
        · have : (o.r, o.w) ∉ U3 := fun h2 => h (this.2 h2)
          simp [h, this]
      rw [hmem] at C3
      obtain ⟨bb, hbb⟩ : ∃ bb, bb = decide ((o.r, o.w) ∈ L3) := ⟨_, rfl⟩
      rw [← hbb] at C2 C3
      obtain ⟨y6, H6, C4, row6⟩ := readers_T g5.wf g5.gr o.w hff
      have on6 := row6.onH
      have g6 := g5.on on6
      obtain ⟨y7, H7, C5, X7, row7, sv7, hX7⟩ := rreaders_T (room := room) g6.wf g6.ur o.w (by omega)
      have on7 := on6.trans row7.onH
      have g7 := g5.on on7
      have eq7 := readers_eq g5.gr.ord g5.perm sv7
      have i6 : Ints H7 .i64 y6 X7 := by
        rw [← eq7]
        exact row6.own.ints.keep row6.wf row7.base row7.keep
      have C6 := row_T i6 row7.own.ints (by omega)
      obtain ⟨y8, H8, C7, f8, row8, fv8, hf8⟩ := fallG_T g7.wf g7.gr hff hvv (by omega) age
      have on8 := on7.trans row8.onH
      have g8 := g5.on on8
      obtain ⟨y9, H9, C8, X9, Y9, row9, sv9, fs9, cl9, hY9⟩ := rfall_T (room := room) g8.wf g8.ur age (by omega)
      have on9 := on8.trans row9.onH
      have g9 := g5.on on9
      have eq9 := fall_eq g5.perm g4.val fv8 sv9 fs9 cl9
      have i8 : Ints H9 .i64 y8 Y9 := by
        rw [← eq9]
        exact row8.own.ints.keep row8.wf row9.base row9.keep
      have C9 := row_T i8 row9.own.ints (by omega)
      obtain ⟨y10, H10, C10, f10, row10, fv10, hf10⟩ := fallG_T g9.wf g9.gr hff hvv (by omega) o.w
      have on10 := on9.trans row10.onH
      have g10 := g5.on on10
      obtain ⟨y11, H11, C11, X11, Y11, row11, sv11, fs11, cl11, hY11⟩ := rfall_T (room := room) g10.wf g10.ur o.w (by omega)
      have on11 := on10.trans row11.onH
      have g11 := g5.on on11
      have eq11 := fall_eq g5.perm g4.val fv10 sv11 fs11 cl11
      have i10 : Ints H11 .i64 y10 Y11 := by
        rw [← eq11]
        exact row10.own.ints.keep row10.wf row11.base row11.keep
      have C12 := row_T i10 row11.own.ints (by omega)
      obtain ⟨y12, H12, C13, row12⟩ := edges_T g11.wf g11.gr
      have on12 := on11.trans row12.onH
      have g12 := g5.on on12
      obtain ⟨y13, H13, C14, O13, row13, ord13, mem13, hO13⟩ := redges_T (room := room) g12.wf g12.ur (by omega)
      have on13 := on12.trans row13.onH
      have g13 := g5.on on13
      have eq13 : L3 = O13 := ord_ext g5.gr.ord ord13 (fun e => by rw [mem13]; exact g5.perm.mem_iff)
      rw [← eq13] at row13
      have r12 : Rws H13 2 y12 (L3.map edv) := Rws.keep row12.wf row13.base row13.keep (Own.rws (ety := 46) (by intro r' hr'; obtain ⟨e, _, rfl⟩ := List.mem_map.1 hr'; rfl) (by rw [List.length_map]; exact row12.own))
      have r13 : Rws H13 2 y13 (L3.map edv) := Own.rws (ety := 54) (by intro r' hr'; obtain ⟨e, _, rfl⟩ := List.mem_map.1 hr'; rfl) (by rw [List.length_map]; exact row13.own)
      obtain ⟨a12, hy12⟩ := row12.own.len
      obtain ⟨a13, hy13⟩ := row13.own.len
      -- what is read
      obtain ⟨lr5, lx5⟩ := g5.rl hw
      obtain ⟨lr6, -⟩ := g6.rl hw
      obtain ⟨lr7, -⟩ := g7.rl hw
      obtain ⟨lr8, -⟩ := g8.rl hw
      obtain ⟨lr9, -⟩ := g9.rl hw
      obtain ⟨lr10, -⟩ := g10.rl hw
      obtain ⟨lr11, -⟩ := g11.rl hw
      obtain ⟨lr12, -⟩ := g12.rl hw
      obtain ⟨p5, q5⟩ := box H5 (On.refl g5.wf)
      obtain ⟨p6, q6⟩ := box H6 on6
      obtain ⟨p7, q7⟩ := box H7 on7
      obtain ⟨p8, q8⟩ := box H8 on8
      obtain ⟨p9, q9⟩ := box H9 on9
      obtain ⟨p10, q10⟩ := box H10 on10
      obtain ⟨p11, q11⟩ := box H11 on11
      obtain ⟨axr, cxr, hxr⟩ := g5.ur.len
      rw [List.length_map, ← hUl3] at hxr
      rw [hxr] at lx5
      have u1' := u1
      have u1'' := u1
      rw [hyb] at u1
      rw [hyb'] at u1'
      simp [L5_2, u11, u1, e1, u7, hil, u9, lr2, hld]
      refine goT_of hT ?_
      simp [st4, u9, u7, u11, u1', hil, hld4, st5]
      refine goT_of C1 ?_
      simp [u9, u7, u2, lx5, p5, q5]
      refine goT_of C2 ?_
      simp [u9, u7, u2, lr5, p5, q5]
      refine goT_of C3 ?_
      simp [u9, u7, u2, lr5, p5, q5]
      refine goT_of C4 ?_
      simp [u9, u7, u2, lr5, q5, lr6, q6]
      refine goT_of C5 ?_
      simp [u9, u7, u2, lr6, q6, lr7, q7]
      refine goT_of C6 ?_
      simp [u9, u7, u2, lr7, q7]
      refine goT_of C7 ?_
      simp [u9, u7, u2, lr7, q7, lr8, q8]
      refine goT_of C8 ?_
      simp [u9, u7, u2, lr8, q8, lr9, q9]
      refine goT_of C9 ?_
      simp [u9, u7, u2, lr9, q9]
      refine goT_of C10 ?_
      simp [u9, u7, u2, lr9, q9, lr10, q10]
      refine goT_of C11 ?_
      simp [u9, u7, u2, lr10, q10, lr11, q11]
      refine goT_of C12 ?_
      simp [u9, u7, u2, lr11, q11]
      refine goT_of C13 ?_
      simp [u9, u7, u2, lr11, lr12]
      refine goT_of C14 ?_
      rw [hy12, hy13]
      simp
      rw [← hy12, ← hy13]
      refine loopE r12 r13 (by omega) (by simp) (by simp) (by simp) ?_
      intro t9 v1 v2 v7 v9 v11
      simp at v1 v2 v7 v9 v11
      simp [v11, u11, e4]
      exact ⟨k, by omega, iN, L3, U3, x3, xr', by omega, by simp [v1, u1''], by simp [v2, u2], by simp [v7, u7], by simp [v9, u9], by simp, by omega, g13⟩
theorem plays_T {H : Heap} (hw : H.WF) {y : Value} {l : List Op} (hy : Rws H 3 y (l.map Op.cells)) (room age : Int) : ∃ v H', T Try.prog 5 [iv room, y, iv age] H v H' ∧ v = .bool true := by
  refine T_by hm light5 ?_
  obtain ⟨ay, cy, hyl⟩ := hy.len
  rw [List.length_map] at hyl
  by_cases hl : 80 < l.length
  · rw [hyl]; simp [L5, hl]
  by_cases hr : room < 1 ∨ 512 < room
  · obtain ⟨H2, T2, on2⟩ := rnew_T hw room
    rw [if_pos hr, if_pos hr] at T2
    have st := new_storeA on2.wf 36 2 [iv 0, .slice none 0 0] (rv 0 (.slice none 0 0)) rfl rfl (by decide)
    rw [hyl]
    simp [L5, hl]
    refine goT_of (new_no hr) ?_
    simp
    refine goT_of T2 ?_
    simp [st]
    refine loop_at (fun k t H1 => t 1 = .slice ay l.length cy ∧ t 7 = .pointer none ∧ t 11 = iv 0 ∧ H1.WF) 0 ?_ ?_
    · exact ⟨by simp, by simp, by simp, WF_new on2.wf _ _ _⟩
    · rintro k t H1 ⟨t1, t7, t11, w1⟩
      by_cases h0 : 0 < l.length
      · simp [L5_2, t1, t7, t11, h0]
        refine goT_of (alive_T H1) ?_
        simp
      · simp [L5_2, t1, t7, t11, h0]
        refine goT_of (alive_T H1) ?_
        simp
  · obtain ⟨H1, T1, g1, w1, b1, n1, k1⟩ := new_T hw (room := room) (by omega)
    obtain ⟨H2, T2, on2⟩ := rnew_T w1 room
    rw [if_neg hr, if_neg hr] at T2
    have st := new_storeA on2.wf 36 2 [iv 0, .slice none 0 0] (rv room (.slice none 0 0)) rfl rfl (by decide)
    obtain ⟨H3, hH3⟩ : ∃ H3, H3 = H2.new 36 2 (rv room (.slice none 0 0)) := ⟨_, rfl⟩
    rw [← hH3] at st
    have on3 : On H1 H3 := by rw [hH3]; exact on2.new _ _ _
    have hn2 := on2.next
    have g3 : GP H H3 H.next H2.next room [] [] (.slice none 0 0) (.slice none 0 0) := by
      refine ⟨g1.keep w1 on3.base on3.keep, .inl ⟨rfl, rfl⟩, List.Perm.refl _, fun e he => (by cases he), on3.wf, on3.base.trans b1, Nat.le_refl _, fun b hb => ?_, by rw [hH3]; simp, by omega, by omega, by simp, fun b hb => (by cases hb), fun b hb => (by cases hb)⟩
      rw [on3.keep b (by omega), k1 b hb]
    rw [hyl]
    simp [L5, hl]
    refine goT_of T1 ?_
    simp
    refine goT_of T2 ?_
    simp [st]
    rw [← hyl]
    refine plays_loop (age := age) hw hy (by omega) g3 (by simp [hyl]) (by simp) (by simp) (by simp) (by simp) ?_
    intro t9 H9 w9
    simp
    refine goT_of (alive_T H9) ?_
    simp
end Go.Proofs.Ytadegahkgpedgaa
