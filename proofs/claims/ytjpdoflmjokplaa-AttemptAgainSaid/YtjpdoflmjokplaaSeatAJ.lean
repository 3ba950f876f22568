/-
  Chapter 22: AttemptPlays. Chapter 22: AttemptPlays: the loop over the calls, and the whole law.
-/
import Derived.Test.YtjpdoflmjokplaaSeatAH
namespace Go.Proofs.Ytjpdoflmjokplaa
open Go.Ot Go.RowKit
set_option linter.unusedSimpArgs false
set_option linter.unusedVariables false
def InvAh (H : Heap) (sb : Nat) (rd : List (Int × Int)) (t0 : Tm) (k : Nat) (t : Tm) (H1 : Heap) : Prop :=
  ∃ i y, i + k = rd.length ∧ t 1 = t0 1 ∧ t 2 = t0 2 ∧ t 3 = ptr sb ∧ t 7 = t0 7 ∧ t 9 = t0 9 ∧ t 11 = y ∧ t 12 = iv i ∧ Row H H1 2 1 i (ci ((rd.map (·.2)).take i)) y
theorem ahead_loop {H : Heap} (hw : H.WF) {sb : Nat} {n1 n2 n3 : Int} {xd : Value} {rd : List (Int × Int)} (V : Vr H sb 38 4 [iv n1, iv n2, iv n3, xd]) (hd : TwosB H xd rd) (hl : rd.length ≤ 1000) {Q : Exit → Tm → Heap → Prop} {t : Tm}
    (t3 : t 3 = ptr sb) (t11 : t 11 = .slice none 0 0) (t12 : t 12 = iv 0)
    (hQ : ∀ t9 H9 y, t9 1 = t 1 → t9 2 = t 2 → t9 3 = ptr sb → t9 7 = t 7 → t9 9 = t 9 → t9 11 = y → Row H H9 2 1 rd.length (ci (rd.map (·.2))) y → Q (.exit 0) t9 (rdy H9)) : wpA Try.prog (.loop L4_1) Q t (rdy H) := by
  refine loop_at (InvAh H sb rd t) rd.length ?_ ?_
  · exact ⟨0, .slice none 0 0, by omega, rfl, rfl, t3, rfl, rfl, t11, t12, by simpa [ci] using Row.nil hw 2 1⟩
  · rintro k tt H1 ⟨i, y, hik, u1, u2, u3, u7, u9, u11, u12, row⟩
    obtain ⟨ax, cx, hxl⟩ := hd.twos.len
    have V1 := V.keep row.base (row.keep _ (hw.lt V.bq))
    have l3 : H1.load ⟨sb, 3, none⟩ = some xd := V1.load 3
    cases k with
    | zero =>
      have e1 : ¬ ((i : Int) < rd.length) := by omega
      have e2 : i = rd.length := by omega
      rw [e2, List.take_of_length_le (by simp)] at row
      have hq := fun (t9 : Tm) (h1 : t9 1 = tt 1) (h2 : t9 2 = tt 2) (h3 : t9 3 = tt 3) (h7 : t9 7 = tt 7) (h9 : t9 9 = tt 9) (h11 : t9 11 = tt 11) => hQ t9 H1 y (h1.trans u1) (h2.trans u2) (h3.trans u3) (h7.trans u7) (h9.trans u9) (h11.trans u11) row
      rw [hxl] at l3
      simp [L4_1, u12, u3, l3, e1]
      exact hq _ (by simp) (by simp) (by simp) (by simp) (by simp) (by simp)
    | succ k =>
      have hil : i < rd.length := by omega
      have e1 : ((i : Int) < rd.length) := by omega
      have e4 : IntKind.i64.wrap ((i : Int) + 1) = ((i + 1 : Nat) : Int) := by rw [w64 _ (by omega)]; omega
      obtain ⟨b, off, c2, hxb, _, hld⟩ := (hd.keep row.base).twos.at (i := i) hil
      obtain ⟨iN, hiN⟩ : ∃ n : Nat, n = i + 1 := ⟨_, rfl⟩
      have htk : (rd.map (·.2)).take iN = (rd.map (·.2)).take i ++ [rd[i].2] := by rw [hiN, List.take_add_one]; simp [hil]
      rw [← hiN] at e4
      obtain ⟨HA, ap, row2⟩ := row.push [iv rd[i].2] rfl (by decide) 8 (by omega)
      have hz : zerosA [iv 0] 1 = [iv 0] := rfl
      rw [hxb] at l3
      simp [L4_1, u12, u3, l3, e1, hil, hld, hz, u11, ap, e4]
      refine ⟨k, by omega, iN, _, by omega, by simp [u1], by simp [u2], by simp [u3], by simp [u7], by simp [u9], by simp; rfl, by simp, ?_⟩
      rw [htk, ci_append, hiN]
      exact row2
/-- Both logs, and the variable in which the document's stands, over a heap H0. -/
structure PQ (H0 H : Heap) (x0 : LX) (lo hi p q : Nat) (ops : List Int) (mr mw mo : Int) (rd : List (Int × Int)) (d : LD) (x : LX) (r : RL) (dd : DL) (rb : Nat) : Prop where
  wf : H.WF
  base : H.base = H0.base
  next : H0.next ≤ H.next
  keep : ∀ b, b < H0.next → ¬ x0.own lo hi p b → b ≠ rb → H.blk b = H0.blk b
  new : ∀ b, x.own lo hi p b → x0.own lo hi p b ∨ H0.next ≤ b
  ls : LS H lo hi p q ops mr mw mo d x
  rd : RD H mr mw mo rd r dd
  sep : ∀ b, dd.own b → ¬ x.own lo hi p b ∧ b < H.next
  ddn : ∀ b, dd.own b → H0.next ≤ b
  var : Vr H rb 44 8 (dl dd)
theorem PQ.step {H0 H H' : Heap} {x0 : LX} {lo hi p q : Nat} {ops : List Int} {mr mw mo : Int} {rd : List (Int × Int)} {d d' : LD} {x x' : LX} {r r' : RL} {dd dd' : DL} {rb : Nat} (h0 : ∀ b, x0.own lo hi p b → b < H0.next) (hrb : rb < H0.next) (hrx : ¬ x0.own lo hi p rb)
    (g : PQ H0 H x0 lo hi p q ops mr mw mo rd d x r dd rb) (s : LS H' lo hi p q ops mr mw mo d' x') (hR : RD H' mr mw mo rd r' dd') (sep : ∀ b, dd'.own b → ¬ x'.own lo hi p b ∧ b < H'.next) (hddn : ∀ b, dd'.own b → dd.own b ∨ H.next ≤ b) (la : LA H H' lo hi p x x') :
    ∃ H2, sStore H' 8 (ptr rb) (dA dd') = some H2 ∧ PQ H0 H2 x0 lo hi p q ops mr mw mo rd d' x' r' dd' rb := by
  have gn := g.next
  have ln := la.next
  have hrbx : ¬ x.own lo hi p rb := fun h => by
    rcases g.new rb h with h1 | h1
    · exact hrx h1
    · omega
  have V := g.var.keep la.base (la.keep _ (by omega) hrbx)
  have hnew : ∀ b, x'.own lo hi p b → x0.own lo hi p b ∨ H0.next ≤ b := fun b hb => by
    rcases la.new b hb with h | h
    · exact g.new b h
    · exact .inr (by omega)
  have nx : ∀ b, x'.own lo hi p b → b ≠ rb := fun b hb e => by
    rcases hnew b hb with h | h
    · exact hrx (e ▸ h)
    · omega
  have hdn : ∀ b, dd'.own b → H0.next ≤ b := fun b hb => by
    rcases hddn b hb with h | h
    · exact g.ddn b h
    · omega
  refine ⟨H'.put rb (dl dd'), V.storeA (by decide) (dl dd') rfl rfl, WF_put la.wf _ _, la.base.trans g.base, by show H0.next ≤ H'.next; omega, fun b hb ho hn => ?_, hnew, ?_, ?_, sep, hdn, V.put _⟩
  · simp [hn]
    rw [la.keep b (by omega) (fun h => by
      rcases g.new b h with h1 | h1
      · exact ho h1
      · omega), g.keep b hb ho hn]
  · exact s.same rfl (Nat.le_refl _) (fun b hb => by simp [nx b hb])
  · exact hR.frame (show (H'.put rb (dl dd')).base = H'.base from rfl) (fun b hb => by
      have := hdn b hb
      simp [show b ≠ rb by omega])
end Go.Proofs.Ytjpdoflmjokplaa
namespace Go.Proofs.Ytjpdoflmjokplaa
open Go.Ot Go.RowKit
set_option linter.unusedSimpArgs false
set_option linter.unusedVariables false
/-- Rows that came in. -/
def RwsB (H : Heap) (sz : Nat) (x : Value) (l : List (List Value)) : Prop :=
  (x = .slice none 0 0 ∧ l = []) ∨ ∃ b off c, x = .slice (some ⟨b, off, none⟩) l.length c ∧ (0 < l.length → b < H.B) ∧ ∀ i (h : i < l.length), l[i].length = sz ∧ ∀ j (hj : j < l[i].length), H.load ⟨b, off + i * sz + j, none⟩ = some l[i][j]
theorem RwsB.rws {H : Heap} {sz : Nat} {x : Value} {l : List (List Value)} (h : RwsB H sz x l) : Rws H sz x l := by
  rcases h with h | ⟨b, off, c, h1, _, h2⟩
  · exact .inl h
  · exact .inr ⟨b, off, c, h1, h2⟩
theorem RwsB.keep {H H' : Heap} {sz : Nat} {x : Value} {l : List (List Value)} (h : RwsB H sz x l) (hb : H'.base = H.base) : RwsB H' sz x l := by
  rcases h with h | ⟨b, off, c, rfl, h1, h2⟩
  · exact .inl h
  · refine .inr ⟨b, off, c, rfl, fun h => by rw [B_eq hb]; exact h1 h, fun i hi => ⟨(h2 i hi).1, fun j hj => ?_⟩⟩
    rw [load_ext hb (h1 (by omega))]
    exact (h2 i hi).2 j hj
structure Small (d : LD) (r : RL) (n : Nat) : Prop where
  a1 : d.rs.length ≤ n
  a2 : d.ws.length ≤ n
  a3 : d.os.length ≤ n
  b1 : r.rs.length ≤ n
  b2 : r.ws.length ≤ n
  b3 : r.os.length ≤ n
  b4 : r.is.length ≤ n
  m : 0 ≤ d.many ∧ d.many ≤ n
  ok : ∀ e ∈ r.is, okI e.2
theorem writeL_len1 (ws : List (Int × Int)) (a v mw : Int) : (writeL ws a v mw).length ≤ ws.length + 1 := by
  unfold writeL
  split
  · rw [List.length_set]; omega
  · split
    · omega
    · rw [List.length_append, List.length_singleton]; exact Nat.le_refl _
theorem fromL_len (rs : List R3) (a f : Int) : (fromL rs a f).length = rs.length := by
  unfold fromL; split
  · rw [List.length_set]
  · rfl
theorem emitL_len (os : List Int) (n mo : Int) : (emitL os n mo).length ≤ os.length + 1 := by
  unfold emitL; split
  · omega
  · rw [List.length_append, List.length_singleton]; exact Nat.le_refl _
theorem Small.step {ops : List Int} {mr mw mo : Int} {d : LD} {r : RL} {n : Nat} (h : Small d r n) (o : Op) (ho : okI o.v) : Small (opD ops mr mw mo r d o) (opR ops mr mw mo r d o) (n + 1) := by
  obtain ⟨a1, a2, a3, b1, b2, b3, b4, m, ok⟩ := h
  have q1 := noteL_len d.rs (o.a, o.v, o.f) mr
  have q2 := noteL_len r.rs (o.a, o.v, o.f) mr
  have q3 := fromL_len d.rs o.a o.f
  have q4 := fromL_len r.rs o.a o.f
  have q5 := writeL_len1 d.ws o.a o.v mw
  have q6 := writeL_len1 r.ws o.a o.v mw
  have q7 := emitL_len d.os o.v mo
  have q8 := emitL_len r.os o.v mo
  unfold opD opR
  split
  · exact ⟨by show _ ≤ _; simp only; omega, by show _ ≤ _; simp only; omega, by show _ ≤ _; simp only; omega, by show _ ≤ _; simp only; omega, by show _ ≤ _; simp only; omega, by show _ ≤ _; simp only; omega, by show _ ≤ _; simp only; omega, ⟨m.1, by show _ ≤ _; simp only; omega⟩, ok⟩
  · split
    · exact ⟨by show _ ≤ _; simp only; omega, by show _ ≤ _; simp only; omega, by show _ ≤ _; simp only; omega, by show _ ≤ _; simp only; omega, by show _ ≤ _; simp only; omega, by show _ ≤ _; simp only; omega, by show _ ≤ _; simp only; omega, ⟨m.1, by show _ ≤ _; simp only; omega⟩, ok⟩
    · split
      · split
        · exact ⟨by show _ ≤ _; simp only; omega, by show _ ≤ _; simp only; omega, by show _ ≤ _; simp only; omega, by show _ ≤ _; simp only; omega, by show _ ≤ _; simp only; omega, by show _ ≤ _; simp only; omega, by show _ ≤ _; simp only; omega, ⟨m.1, by show _ ≤ _; simp only; omega⟩, ok⟩
        · exact ⟨by omega, by omega, by omega, by omega, by omega, by omega, by omega, ⟨m.1, by omega⟩, ok⟩
      · split
        · exact ⟨by show _ ≤ _; simp only; omega, by show _ ≤ _; simp only; omega, by show _ ≤ _; simp only; omega, by show _ ≤ _; simp only; omega, by show _ ≤ _; simp only; omega, by show _ ≤ _; simp only; omega, by show _ ≤ _; simp only; omega, ⟨m.1, by show _ ≤ _; simp only; omega⟩, ok⟩
        · split
          · refine ⟨by show _ ≤ _; simp only; omega, by show _ ≤ _; simp only; omega, by show _ ≤ _; simp only; omega, by show _ ≤ _; simp only; omega, by show _ ≤ _; simp only; omega, by show _ ≤ _; simp only; omega, ?_, ?_, ?_⟩
            · show (if _ then _ else _ : List _).length ≤ _
              split
              · rw [List.length_append, List.length_singleton]; omega
              · omega
            · show 0 ≤ (if may ops o.a = true then d.many + 1 else d.many) ∧ (if may ops o.a = true then d.many + 1 else d.many) ≤ ((n + 1 : Nat) : Int)
              by_cases hm : may ops o.a = true
              · rw [if_pos hm]; omega
              · rw [if_neg hm]; omega
            · intro e he
              have he' : e ∈ (if 0 ≤ o.a ∧ o.a < (ops.length : Int) then r.is ++ [(o.a, o.v)] else r.is) := he
              split at he'
              · rcases List.mem_append.1 he' with h | h
                · exact ok e h
                · rw [List.mem_singleton.1 h]; exact ho
              · exact ok e he'
          · exact ⟨by simp, by simp, by simp, by simp, by simp, by simp, by simp, ⟨by simp, by show (0 : Int) ≤ _; omega⟩, fun e he => (by cases he)⟩
section
variable {H0 : Heap} {x0 : LX} {lo hi p q : Nat} {ops : List Int} {mr mw mo : Int} {rd : List (Int × Int)} {rb : Nat} (hx0 : ∀ b, x0.own lo hi p b → b < H0.next) (hrb : rb < H0.next) (hrx : ¬ x0.own lo hi p rb) (hops : ops = rd.map (·.1)) (hol : ops.length ≤ 1000) (hmw : 0 ≤ mw)
  {y xm xz : Value} {l : List Op} {m z : List Int} (hy : RwsB H0 4 y (l.map Op.cells)) (hok : ∀ o ∈ l, okI o.v) (hl : l.length ≤ 120) (hxm : IntsB H0 .i64 xm m) (okm : ∀ n ∈ m, okI n) (hml : m.length ≤ 100) (hz : Ints H0 .i64 xz z) (okz : ∀ n ∈ z, okI n) (hzl : z.length ≤ 1000) (hzb : ∀ b, blkOf xz = some b → b < H0.next ∧ ¬ x0.own lo hi p b ∧ b ≠ rb)
def InvPl (H0 : Heap) (x0 : LX) (lo hi p q : Nat) (ops : List Int) (mr mw mo : Int) (rd : List (Int × Int)) (rb : Nat) (y xm xz : Value) (l : List Op) (k : Nat) (t : Tm) (H : Heap) : Prop :=
  ∃ i d x r dd, i + k = l.length ∧ t 1 = y ∧ t 2 = xm ∧ t 7 = ptr p ∧ t 9 = ptr rb ∧ t 11 = xz ∧ t 13 = iv i ∧ Small d r i ∧ Alike ops mw d r ∧ PQ H0 H x0 lo hi p q ops mr mw mo rd d x r dd rb
include hx0 hrb hrx hops hol hmw hy hok hl hxm okm hml hz okz hzl hzb
theorem plays_loop {H1 : Heap} {d : LD} {x : LX} {r : RL} {dd : DL} (g0 : PQ H0 H1 x0 lo hi p q ops mr mw mo rd d x r dd rb) (sm : Small d r 0) (al : Alike ops mw d r) {Q : Exit → Tm → Heap → Prop} {t : Tm} (t1 : t 1 = y) (t2 : t 2 = xm) (t7 : t 7 = ptr p) (t9 : t 9 = ptr rb) (t11 : t 11 = xz) (t13 : t 13 = iv 0)
    (hQ : ∀ tt H9, H9.WF → Q (.exit 2) tt (rdy H9)) : wpA Try.prog (.loop L4_2) Q t (rdy H1) := by
  refine loop_at (InvPl H0 x0 lo hi p q ops mr mw mo rd rb y xm xz l) l.length ?_ ?_
  · exact ⟨0, d, x, r, dd, by omega, t1, t2, t7, t9, t11, t13, sm, al, g0⟩
  · rintro k tt H ⟨i, d, x, r, dd, hik, u1, u2, u7, u9, u11, u13, sm, al, g⟩
    obtain ⟨ay, cy, hyl⟩ := hy.rws.len
    rw [List.length_map] at hyl
    cases k with
    | zero =>
      have e1 : ¬ ((i : Int) < l.length) := by omega
      rw [hyl] at u1
      simp [L4_2, u13, u1, e1]
      exact hQ _ H g.wf
    | succ k =>
      have hil : i < l.length := by omega
      have e1 : ((i : Int) < l.length) := by omega
      have e4 : IntKind.i64.wrap ((i : Int) + 1) = ((i + 1 : Nat) : Int) := by rw [w64 _ (by omega)]; omega
      obtain ⟨iN, hiN⟩ : ∃ n : Nat, n = i + 1 := ⟨_, rfl⟩
      rw [← hiN] at e4
      obtain ⟨b, off, c, hyb, _, hld, _⟩ := (hy.keep g.base).rws.at (i := i) (by simpa using hil)
      rw [List.length_map] at hyb
      simp only [List.getElem_map] at hld
      obtain ⟨v, H2, hT, dd2, ok, x2, rfl, hokv, s2, R2, sep2, la2⟩ := one_T g.wf g.ls hops hol g.rd g.sep l[i] (by have := sm.a1; omega) (by have := sm.a2; omega) (by have := sm.a3; omega) (by have := sm.b1; omega) (by have := sm.b2; omega) (by have := sm.b3; omega) (by have := sm.b4; omega) (by have := sm.m; omega)
      have hokt := hokv al
      subst hokt
      have sm2 := sm.step (ops := ops) (mr := mr) (mw := mw) (mo := mo) l[i] (hok _ (List.getElem_mem _))
      have al2 := al.step (mr := mr) (mo := mo) hmw l[i]
      obtain ⟨o, ho⟩ : ∃ o, o = l[i] := ⟨_, rfl⟩
      obtain ⟨H3, st3, g3⟩ := g.step hx0 hrb hrx s2 R2 (fun b hb => ⟨(sep2 b hb).1, (sep2 b hb).2.1⟩) (fun b hb => (sep2 b hb).2.2) la2
      rw [← hiN] at sm2
      obtain ⟨b', off', c', hyb', _, _, hle⟩ := (hy.keep g3.base).rws.at (i := i) (by simpa using hil)
      rw [List.length_map] at hyb'
      simp only [List.getElem_map] at hle
      have p1 := hle 1 (by simp [Op.cells])
      have p2 := hle 2 (by simp [Op.cells])
      simp [Op.cells] at p1 p2
      have zz : Ints H3 .i64 xz z := Ints.frame g3.base hz (fun b hb => g3.keep b (hzb b hb).1 (hzb b hb).2.1 (hzb b hb).2.2)
      have mm : Ints H3 .i64 xm m := (hxm.keep g3.base).ints
      have C1 := same_T g3.wf g3.ls hops hol g3.rd al2 (by have := sm2.b1; omega) (by have := sm2.b2; omega) (by have := sm2.b3; omega) (by have := sm2.b4; omega) sm2.ok l[i].a mm zz okz (by omega)
      have C2 := same_T g3.wf g3.ls hops hol g3.rd al2 (by have := sm2.b1; omega) (by have := sm2.b2; omega) (by have := sm2.b3; omega) (by have := sm2.b4; omega) sm2.ok l[i].f mm mm okm (by omega)
      have ld : H.loadN ⟨rb, 0, none⟩ 0 8 = some (dl dd) := g.var.loadA rfl
      have ld3 : H3.loadN ⟨rb, 0, none⟩ 0 8 = some (dl dd2) := g3.var.loadA rfl
      rw [← ho] at hld p1 p2 hT C1 C2
      obtain ⟨oc, hoc⟩ : ∃ oc, oc = o.cells := ⟨_, rfl⟩
      rw [← hoc] at hld hT
      obtain ⟨d0, hd0⟩ : ∃ d0, d0 = dl dd := ⟨_, rfl⟩
      have hda : dA dd = .agg d0.toArray := by rw [hd0]
      rw [← hd0] at ld
      rw [hda] at hT
      obtain ⟨d2, hd2⟩ : ∃ d2, d2 = dl dd2 := ⟨_, rfl⟩
      have hda2 : dA dd2 = .agg d2.toArray := by rw [hd2]
      rw [← hd2] at ld3
      rw [hda2] at hT st3 C1 C2
      have u1' := u1
      have u1'' := u1
      rw [hyb] at u1
      rw [hyb'] at u1'
      simp [L4_2, u13, u1, u7, u9, e1, hil, ld, hld]
      refine goT_of hT ?_
      simp [st3, ld3, u9, u7, u13, u1', u2, u11, hil, p1]
      refine goT_of C1 ?_
      simp [ld3, u9, u7, u13, u1', u2, u11, hil, p2]
      refine goT_of C2 ?_
      simp [u13, e4]
      exact ⟨k, by omega, iN, _, x2, _, dd2, by omega, by simp [u1''], by simp [u2], by simp [u7], by simp [u9], by simp [u11], by simp, sm2, al2, g3⟩
end
theorem no_loop {H : Heap} {n : Nat} {a : Option Addr} {c : Nat} {Q : Exit → Tm → Heap → Prop} {t : Tm} (t1 : t 1 = .slice a n c) (t7 : t 7 = .pointer none) (t13 : t 13 = iv 0) (hQ : ∀ tt, Q (.exit 2) tt (rdy H)) : wpA Try.prog (.loop L4_2) Q t (rdy H) := by
  refine loop_at (fun k t' H1 => t' 1 = .slice a n c ∧ t' 7 = .pointer none ∧ t' 13 = iv 0 ∧ H1 = H) 0 ⟨t1, t7, t13, rfl⟩ ?_
  rintro k tt H1 ⟨u1, u7, u13, rfl⟩
  by_cases h0 : 0 < n
  · simp [L4_2, u1, u7, u13, h0]
    exact hQ _
  · simp [L4_2, u1, u7, u13, h0]
    exact hQ _
theorem plays_T {H : Heap} (hw : H.WF) {n1 n2 n3 : Int} {xd y xm : Value} {rd : List (Int × Int)} {l : List Op} {m : List Int} (hd : TwosB H xd rd) (okr : ∀ e ∈ rd, okI e.2) (hy : RwsB H 4 y (l.map Op.cells)) (hok : ∀ o ∈ l, okI o.v) (hxm : IntsB H .i64 xm m) (okm : ∀ n ∈ m, okI n) :
    ∃ v H', T Try.prog 4 [.agg #[iv n1, iv n2, iv n3, xd], y, xm] H v H' ∧ v = .bool true := by
  refine T_by hm light4 ?_
  have hc : (Value.agg #[iv n1, iv n2, iv n3, xd]).cells.toList = [iv n1, iv n2, iv n3, xd] := rfl
  obtain ⟨ay, cy, hyl⟩ := hy.rws.len
  obtain ⟨am, cm, hml⟩ := hxm.len
  obtain ⟨ad, cd, hdl⟩ := hd.twos.len
  rw [List.length_map] at hyl
  have onH : On H H := ⟨hw, rfl, Nat.le_refl _, fun _ _ => rfl⟩
  obtain ⟨HA, hHA⟩ : ∃ HA, HA = H.new 38 4 [iv n1, iv n2, iv n3, xd] := ⟨_, rfl⟩
  have onA : On H HA := by rw [hHA]; exact onH.new' _ _ _
  have VA : Vr HA H.next 38 4 [iv n1, iv n2, iv n3, xd] := by rw [hHA]; exact Vr.mk' hw _ _ _
  have nA : HA.next = H.next + 1 := by rw [hHA]; rfl
  have a0 : HA.load ⟨H.next, 0, none⟩ = some (iv n1) := VA.load 0
  have a1 : HA.load ⟨H.next, 1, none⟩ = some (iv n2) := VA.load 1
  have a2 : HA.load ⟨H.next, 2, none⟩ = some (iv n3) := VA.load 2
  have a3 : HA.load ⟨H.next, 3, none⟩ = some xd := VA.load 3
  by_cases hl : 120 < l.length
  · rw [hyl]; simp [L4, hl]
  by_cases hmm : 100 < m.length
  · rw [hyl, hml]; simp [L4, hl, hmm]
  have a3' := a3
  rw [hdl] at a3'
  by_cases hdd : 50 < rd.length
  · rw [hyl, hml]
    simp [L4, hl, hmm]
    rw [← hHA]
    simp [a3', hdd]
  obtain ⟨v1, H1, T1, Q1, on1⟩ := lnewG_T onA.wf n1 n2 n3 (hd.keep onA.base).twos (by omega)
  have onH1 := onA.trans' on1
  have V1 := VA.keep on1.base (on1.keep _ (by omega))
  have b0 : H1.load ⟨H.next, 0, none⟩ = some (iv n1) := V1.load 0
  have b1 : H1.load ⟨H.next, 1, none⟩ = some (iv n2) := V1.load 1
  have b2 : H1.load ⟨H.next, 2, none⟩ = some (iv n3) := V1.load 2
  have b3 : H1.load ⟨H.next, 3, none⟩ = some xd := V1.load 3
  obtain ⟨v2, H2, T2, rfl, X2⟩ := refNew_T onH1.wf n1 n2 n3 (hd.keep onH1.base).twos (by omega)
  obtain ⟨nc, hnc⟩ : ∃ nc, nc = newC n1 n2 n3 rd := ⟨_, rfl⟩
  unfold LNewQ at Q1
  rw [← hnc] at Q1 T2
  obtain ⟨rc, hrc⟩ : ∃ rc, rc = (if nc = 0 then dl (newD n1 n2 n3 xd) else z8) := ⟨_, rfl⟩
  have hrc8 : rc.length = 8 := by rw [hrc]; split <;> rfl
  rw [← hrc] at T2
  have st2 := new_storeA X2.wf 44 8 z8 rc rfl hrc8 (by decide)
  simp only [z8] at st2
  obtain ⟨H3, hH3⟩ : ∃ H3, H3 = H2.new 44 8 rc := ⟨_, rfl⟩
  rw [← hH3] at st2
  have on3 : On H1 H3 := by rw [hH3]; exact X2.on.new' _ _ _
  have onH3 := onH1.trans' on3
  have nx3 : H3.next = H2.next + 1 := by rw [hH3]; rfl
  have V3 := V1.keep on3.base (on3.keep _ (by have := on1.next; omega))
  by_cases h0 : nc = 0
  · rw [if_pos h0] at Q1
    obtain ⟨p, q, hi, x, rfl, hpn, ls, hxn⟩ := Q1
    have hbad : ¬ (badN n1 || badN n2 || badN n3) = true := by
      intro hb
      have : newC n1 n2 n3 rd = 161 := by unfold newC; rw [if_pos hb]
      rw [← hnc, h0] at this
      exact absurd this (by decide)
    simp only [badN, Bool.or_eq_true, decide_eq_true_eq, not_or] at hbad
    obtain ⟨⟨⟨c1, c2⟩, c3, c4⟩, c5, c6⟩ := hbad
    have bnd1 := ls.bounds onH1.wf
    have nH1 := on1.next
    have nH2 := X2.next
    simp [L4, hyl, hml, hl, hmm]
    rw [← hHA]
    simp [a3', hdd, a0, a1, a2]
    rw [← hdl]
    refine goT_of T1 ?_
    simp [b0, b1, b2, b3]
    rw [h0] at T2
    rw [if_pos h0] at hrc
    refine goT_of T2 ?_
    simp [hrc8, st2]
    refine ahead_loop on3.wf V3 (hd.keep onH3.base) (by omega) (by simp) (by simp) (by simp) ?_
    intro t9 H9 y9 u1 u2 u3 u7 u9 u11 row9
    simp at u1 u2 u7 u9
    have on9 := on3.trans' row9.on
    have onH9 := onH3.trans' row9.on
    have n9 := row9.next
    have ls9 := ls.on onH1.wf on9.base on9.next on9.keep
    have V9 : Vr H9 H2.next 44 8 (dl (newD n1 n2 n3 xd)) := by
      have : Vr H3 H2.next 44 8 rc := by rw [hH3]; exact Vr.mk' X2.wf _ _ _
      rw [hrc] at this
      exact this.keep row9.base (row9.keep _ (by omega))
    have rd9 : RD H9 n1 n2 n3 rd ⟨[], [], [], []⟩ (newD n1 n2 n3 xd) := ⟨rfl, rfl, rfl, hd.keep onH9.base, .inl ⟨rfl, rfl⟩, .inl ⟨rfl, rfl⟩, .inl ⟨rfl, rfl⟩, .inl ⟨rfl, rfl⟩⟩
    have noown : ∀ b, (newD n1 n2 n3 xd).own b → False := fun b hb => by
      rcases hb with h | h | h | h <;> cases h
    have g0 : PQ H9 H9 x HA.next hi p q (rd.map (·.1)) n1 n2 n3 rd ⟨[], [], [], rd.map (fun r => zeroV r.1), 0⟩ x ⟨[], [], [], []⟩ (newD n1 n2 n3 xd) H2.next :=
      ⟨row9.wf, rfl, Nat.le_refl _, fun _ _ _ _ => rfl, fun b hb => .inl hb, ls9, rd9, fun b hb => (noown b hb).elim, fun b hb => (noown b hb).elim, V9⟩
    have al0 : Alike (rd.map (·.1)) n2 ⟨[], [], [], rd.map (fun r => zeroV r.1), 0⟩ ⟨[], [], [], []⟩ := ⟨rfl, rfl, rfl, by
      show rd.map (fun r => zeroV r.1) = inN (rd.map (·.1)) [] (rd.map (·.1)).length
      rw [inN_nil]; simp, by show ((0 : Nat) : Int) ≤ n2; omega⟩
    simp
    have z9 : Ints H9 .i64 y9 (rd.map (·.2)) := Own.ints (ety := 2) (n := rd.length) row9.own
    refine plays_loop (H0 := H9) (x0 := x) (lo := HA.next) (hi := hi) (p := p) (q := q) (mr := n1) (mw := n2) (mo := n3) (rd := rd) (rb := H2.next) (fun b hb => by have := bnd1 b hb; omega) (by omega) (fun h => by have := bnd1 _ h; omega) rfl (by rw [List.length_map]; omega) (by omega)
      (hy.keep onH9.base) hok (by omega) (hxm.keep onH9.base) okm (by omega) z9 (fun n hn => by obtain ⟨e, he, rfl⟩ := List.mem_map.1 hn; exact okr e he) (by rw [List.length_map]; omega) (fun b hb => ?_) g0 ⟨by simp, by simp, by simp, by simp, by simp, by simp, by simp, ⟨by simp, by simp⟩, fun e he => (by cases he)⟩ al0 (by simp [u1, hyl]) (by simp [u2, hml]) (by simp [u7]) (by simp [u9]) (by simp [u11]) (by simp) ?_
    · have q1 := row9.new b hb
      have q2 := row9.own.lt row9.wf hb
      exact ⟨q2, fun h => by have := bnd1 b h; omega, by omega⟩
    · intro tt Hz wz
      obtain ⟨va, Ha, Ta, rfl⟩ := alive_T wz
      simp
      refine goT_of Ta ?_
      simp
  · rw [if_neg h0] at Q1
    subst Q1
    have hbb : (nc == 0) = false := by simpa using h0
    have hbb2 : (nc != 0) = true := by rw [bne, hbb]; rfl
    simp [L4, hyl, hml, hl, hmm]
    rw [← hHA]
    simp [a3', hdd, a0, a1, a2]
    rw [← hdl]
    refine goT_of T1 ?_
    simp [b0, b1, b2, b3]
    refine goT_of T2 ?_
    simp [hrc8, st2, h0, hbb, hbb2]
    refine ahead_loop on3.wf V3 (hd.keep onH3.base) (by omega) (by simp) (by simp) (by simp) ?_
    intro t9 H9 y9 u1 u2 u3 u7 u9 u11 row9
    simp at u1 u2 u7 u9
    simp
    refine no_loop (a := ay) (n := l.length) (c := cy) (by simp [u1, hyl]) (by simp [u7]) (by simp) ?_
    intro tt
    obtain ⟨va, Ha, Ta, rfl⟩ := alive_T row9.wf
    simp
    refine goT_of Ta ?_
    simp
end Go.Proofs.Ytjpdoflmjokplaa
