/-
  Chapter 22: AttemptAgain: two logs side by side. Chapter 22: AttemptAgain: the whole law. Chapter 22: openings: the setup, rows of calls; AttemptPlays and AttemptAgain at every input.
-/
import Derived.Test.YtjpdoflmjokplaaSeatAJ
import Derived.Test.YtjpdoflmjokplaaOtZ
namespace Go.Proofs.Ytjpdoflmjokplaa
open Go.Ot Go.RowKit
set_option linter.unusedSimpArgs false
set_option linter.unusedVariables false
def rE : RL := ⟨[], [], [], []⟩
/-- A log's places. -/
structure Pl where
  lo : Nat
  hi : Nat
  p : Nat
  q : Nat
/-- Two logs, the variable of the document's and that of the setup. -/
structure QQ (bs : Base) (H : Heap) (a b : Pl) (ops : List Int) (mr mw mo : Int) (d1 d2 : LD) (x1 x2 : LX) (sb rb : Nat) (sc rc : List Value) : Prop where
  wf : H.WF
  base : H.base = bs
  l1 : LS H a.lo a.hi a.p a.q ops mr mw mo d1 x1
  l2 : LS H b.lo b.hi b.p b.q ops mr mw mo d2 x2
  dj : ∀ c, x1.own a.lo a.hi a.p c → ¬ x2.own b.lo b.hi b.p c
  vs : Vr H sb 38 4 sc
  vr : Vr H rb 44 8 rc
  n1 : ¬ x1.own a.lo a.hi a.p sb ∧ ¬ x2.own b.lo b.hi b.p sb
  n2 : ¬ x1.own a.lo a.hi a.p rb ∧ ¬ x2.own b.lo b.hi b.p rb
theorem QQ.symm {bs : Base} {H : Heap} {a b : Pl} {ops : List Int} {mr mw mo : Int} {d1 d2 : LD} {x1 x2 : LX} {sb rb : Nat} {sc rc : List Value} (g : QQ bs H a b ops mr mw mo d1 d2 x1 x2 sb rb sc rc) : QQ bs H b a ops mr mw mo d2 d1 x2 x1 sb rb sc rc :=
  ⟨g.wf, g.base, g.l2, g.l1, fun c h1 h2 => g.dj c h2 h1, g.vs, g.vr, ⟨g.n1.2, g.n1.1⟩, ⟨g.n2.2, g.n2.1⟩⟩
theorem QQ.turn {bs : Base} {H H' : Heap} {a b : Pl} {ops : List Int} {mr mw mo : Int} {d1 d1' d2 : LD} {x1 x1' x2 : LX} {sb rb : Nat} {sc rc : List Value} (g : QQ bs H a b ops mr mw mo d1 d2 x1 x2 sb rb sc rc)
    (s : LS H' a.lo a.hi a.p a.q ops mr mw mo d1' x1') (la : LA H H' a.lo a.hi a.p x1 x1') : QQ bs H' a b ops mr mw mo d1' d2 x1' x2 sb rb sc rc := by
  have b2 := g.l2.bounds g.wf
  have hs := g.wf.lt g.vs.bq
  have hr := g.wf.lt g.vr.bq
  have hn : ∀ c, c < H.next → x1'.own a.lo a.hi a.p c → x1.own a.lo a.hi a.p c := fun c hc h => by
    rcases la.new c h with h1 | h1
    · exact h1
    · omega
  exact ⟨la.wf, la.base.trans g.base, s, g.l2.same la.base la.next (fun c hc => la.keep c (b2 c hc) (fun h => g.dj c h hc)), fun c h1 h2 => g.dj c (hn c (b2 c h2) h1) h2,
    g.vs.keep la.base (la.keep _ hs g.n1.1), g.vr.keep la.base (la.keep _ hr g.n2.1), ⟨fun h => g.n1.1 (hn _ hs h), g.n1.2⟩, ⟨fun h => g.n2.1 (hn _ hr h), g.n2.2⟩⟩
theorem QQ.on {bs : Base} {H H' : Heap} {a b : Pl} {ops : List Int} {mr mw mo : Int} {d1 d2 : LD} {x1 x2 : LX} {sb rb : Nat} {sc rc : List Value} (g : QQ bs H a b ops mr mw mo d1 d2 x1 x2 sb rb sc rc) (o : On H H') : QQ bs H' a b ops mr mw mo d1 d2 x1 x2 sb rb sc rc :=
  ⟨o.wf, o.base.trans g.base, g.l1.on g.wf o.base o.next o.keep, g.l2.on g.wf o.base o.next o.keep, g.dj, g.vs.keep o.base (o.keep _ (g.wf.lt g.vs.bq)), g.vr.keep o.base (o.keep _ (g.wf.lt g.vr.bq)), g.n1, g.n2⟩
structure Sm (d : LD) (n : Nat) : Prop where
  a1 : d.rs.length ≤ n
  a2 : d.ws.length ≤ n
  a3 : d.os.length ≤ n
  m : 0 ≤ d.many ∧ d.many ≤ n
theorem Sm.step {ops : List Int} {mr mw mo : Int} {d : LD} {n : Nat} (h : Sm d n) (o : Op) (ho : okI o.v) : Sm (opD ops mr mw mo rE d o) (n + 1) := by
  have := Small.step (ops := ops) (mr := mr) (mw := mw) (mo := mo) (d := d) (r := rE) (n := n) ⟨h.a1, h.a2, h.a3, by simp [rE], by simp [rE], by simp [rE], by simp [rE], h.m, fun e he => (by cases he)⟩ o ho
  exact ⟨this.a1, this.a2, this.a3, this.m⟩
section
variable {bs : Base} {sb rb : Nat} {n1 n2 n3 : Int} {xd : Value} {rd : List (Int × Int)} {ops : List Int} (hops : ops = rd.map (·.1)) (hol : ops.length ≤ 1000) (hd : ∀ H : Heap, H.base = bs → TwosB H xd rd)
include hops hol hd
/-- The document's empty log stands everywhere. -/
theorem call_a {H : Heap} {a b : Pl} {d1 d2 : LD} {x1 x2 : LX} {sc rc : List Value} (g : QQ bs H a b ops n1 n2 n3 d1 d2 x1 x2 sb rb sc rc) {n : Nat} (sm : Sm d1 n) (hn : n ≤ 800) (o : Op) :
    ∃ v H' x1', T Try.prog 12 [ptr a.p, dA (newD n1 n2 n3 xd), .agg o.cells.toArray] H v H' ∧ QQ bs H' a b ops n1 n2 n3 (opD ops n1 n2 n3 rE d1 o) d2 x1' x2 sb rb sc rc := by
  have hR : RD H n1 n2 n3 rd rE (newD n1 n2 n3 xd) := ⟨rfl, rfl, rfl, hd H g.base, .inl ⟨rfl, rfl⟩, .inl ⟨rfl, rfl⟩, .inl ⟨rfl, rfl⟩, .inl ⟨rfl, rfl⟩⟩
  obtain ⟨v, H2, hT, dd2, ok, x2', rfl, _, s2, _, _, la2⟩ := one_T g.wf g.l1 hops hol hR (fun b hb => by rcases hb with h | h | h | h <;> cases h) o (by have := sm.a1; omega) (by have := sm.a2; omega) (by have := sm.a3; omega) (by simp [rE]) (by simp [rE]) (by simp [rE]) (by simp [rE]) (by have := sm.m; omega)
  exact ⟨_, H2, x2', hT, g.turn s2 la2⟩
def InvA1 (bs : Base) (a b : Pl) (ops : List Int) (n1 n2 n3 : Int) (d2 : LD) (x2 : LX) (sb rb : Nat) (sc rc : List Value) (y : Value) (l : List Op) (t0 : Tm) (k : Nat) (t : Tm) (H : Heap) : Prop :=
  ∃ i d1 x1, i + k = l.length ∧ t 1 = y ∧ t 2 = t0 2 ∧ t 3 = t0 3 ∧ t 7 = ptr a.p ∧ t 9 = t0 9 ∧ t 11 = ptr rb ∧ t 13 = iv i ∧ Sm d1 i ∧ QQ bs H a b ops n1 n2 n3 d1 d2 x1 x2 sb rb sc rc
theorem ahead1 {H : Heap} {a b : Pl} {d1 d2 : LD} {x1 x2 : LX} {sc : List Value} (g0 : QQ bs H a b ops n1 n2 n3 d1 d2 x1 x2 sb rb sc (dl (newD n1 n2 n3 xd))) (sm : Sm d1 0) {y : Value} {l : List Op} (hy : ∀ H : Heap, H.base = bs → RwsB H 4 y (l.map Op.cells)) (hok : ∀ o ∈ l, okI o.v) (hl : l.length ≤ 120)
    {Q : Exit → Tm → Heap → Prop} {t : Tm} (t1 : t 1 = y) (t7 : t 7 = ptr a.p) (t11 : t 11 = ptr rb) (t13 : t 13 = iv 0)
    (hQ : ∀ tt H9 d x, tt 2 = t 2 → tt 3 = t 3 → tt 7 = ptr a.p → tt 9 = t 9 → tt 11 = ptr rb → QQ bs H9 a b ops n1 n2 n3 d d2 x x2 sb rb sc (dl (newD n1 n2 n3 xd)) → Q (.exit 0) tt (rdy H9)) : wpA Try.prog (.loop L5_1) Q t (rdy H) := by
  refine loop_at (InvA1 bs a b ops n1 n2 n3 d2 x2 sb rb sc (dl (newD n1 n2 n3 xd)) y l t) l.length ?_ ?_
  · exact ⟨0, d1, x1, by omega, t1, rfl, rfl, t7, rfl, t11, t13, sm, g0⟩
  · rintro k tt H ⟨i, d1, x1, hik, u1, u2, u3, u7, u9, u11, u13, sm, g⟩
    obtain ⟨ay, cy, hyl⟩ := (hy H g.base).rws.len
    rw [List.length_map] at hyl
    cases k with
    | zero =>
      have e1 : ¬ ((i : Int) < l.length) := by omega
      have hq := fun (t9 : Tm) (h2 : t9 2 = tt 2) (h3 : t9 3 = tt 3) (h7 : t9 7 = tt 7) (h9 : t9 9 = tt 9) (h11 : t9 11 = tt 11) => hQ t9 H d1 x1 (h2.trans u2) (h3.trans u3) (h7.trans u7) (h9.trans u9) (h11.trans u11) g
      rw [hyl] at u1
      simp [L5_1, u13, u1, e1]
      exact hq _ (by simp) (by simp) (by simp) (by simp) (by simp)
    | succ k =>
      have hil : i < l.length := by omega
      have e1 : ((i : Int) < l.length) := by omega
      have e4 : IntKind.i64.wrap ((i : Int) + 1) = ((i + 1 : Nat) : Int) := by rw [w64 _ (by omega)]; omega
      obtain ⟨iN, hiN⟩ : ∃ n : Nat, n = i + 1 := ⟨_, rfl⟩
      rw [← hiN] at e4
      obtain ⟨b1, off, c, hyb, _, hld, _⟩ := (hy H g.base).rws.at (i := i) (by simpa using hil)
      rw [List.length_map] at hyb
      simp only [List.getElem_map] at hld
      obtain ⟨v, H2, x1', hT, g2⟩ := call_a hops hol hd g sm (by omega) l[i]
      have sm2 := sm.step (ops := ops) (mr := n1) (mw := n2) (mo := n3) l[i] (hok _ (List.getElem_mem _))
      rw [← hiN] at sm2
      have ld : H.loadN ⟨rb, 0, none⟩ 0 8 = some (dl (newD n1 n2 n3 xd)) := g.vr.loadA rfl
      obtain ⟨oc, hoc⟩ : ∃ oc, oc = l[i].cells := ⟨_, rfl⟩
      rw [← hoc] at hld hT
      obtain ⟨d0, hd0⟩ : ∃ d0, d0 = dl (newD n1 n2 n3 xd) := ⟨_, rfl⟩
      have hda : dA (newD n1 n2 n3 xd) = .agg d0.toArray := by rw [hd0]
      rw [← hd0] at ld
      rw [hda] at hT
      have u1' := u1
      rw [hyb] at u1
      simp [L5_1, u13, u1, u7, u11, e1, hil, ld, hld]
      refine goT_of hT ?_
      simp [u13, e4]
      exact ⟨k, by omega, iN, _, x1', by omega, by simp [u1'], by simp [u2], by simp [u3], by simp [u7], by simp [u9], by simp [u11], by simp, sm2, g2⟩
def InvA2 (bs : Base) (a b : Pl) (ops : List Int) (n1 n2 n3 : Int) (sb rb : Nat) (sc rc : List Value) (y : Value) (l : List Op) (t0 : Tm) (k : Nat) (t : Tm) (H : Heap) : Prop :=
  ∃ i d x1 x2, i + k = l.length ∧ t 2 = y ∧ t 3 = t0 3 ∧ t 7 = ptr a.p ∧ t 9 = ptr b.p ∧ t 11 = ptr rb ∧ t 14 = iv i ∧ Sm d i ∧ QQ bs H a b ops n1 n2 n3 d d x1 x2 sb rb sc rc
theorem both2 {H : Heap} {a b : Pl} {d : LD} {x1 x2 : LX} {sc : List Value} (g0 : QQ bs H a b ops n1 n2 n3 d d x1 x2 sb rb sc (dl (newD n1 n2 n3 xd))) (sm : Sm d 0) {y : Value} {l : List Op} (hy : ∀ H : Heap, H.base = bs → RwsB H 4 y (l.map Op.cells)) (hok : ∀ o ∈ l, okI o.v) (hl : l.length ≤ 120)
    {Q : Exit → Tm → Heap → Prop} {t : Tm} (t2 : t 2 = y) (t7 : t 7 = ptr a.p) (t9 : t 9 = ptr b.p) (t11 : t 11 = ptr rb) (t14 : t 14 = iv 0)
    (hQ : ∀ tt H9 d x1 x2, tt 3 = t 3 → tt 7 = ptr a.p → tt 9 = ptr b.p → Sm d 120 → QQ bs H9 a b ops n1 n2 n3 d d x1 x2 sb rb sc (dl (newD n1 n2 n3 xd)) → Q (.exit 2) tt (rdy H9)) : wpA Try.prog (.loop L5_2) Q t (rdy H) := by
  refine loop_at (InvA2 bs a b ops n1 n2 n3 sb rb sc (dl (newD n1 n2 n3 xd)) y l t) l.length ?_ ?_
  · exact ⟨0, d, x1, x2, by omega, t2, rfl, t7, t9, t11, t14, sm, g0⟩
  · rintro k tt H ⟨i, d, x1, x2, hik, u2, u3, u7, u9, u11, u14, sm, g⟩
    obtain ⟨ay, cy, hyl⟩ := (hy H g.base).rws.len
    rw [List.length_map] at hyl
    cases k with
    | zero =>
      have e1 : ¬ ((i : Int) < l.length) := by omega
      have hq := fun (t9 : Tm) (h3 : t9 3 = tt 3) (h7 : t9 7 = tt 7) (h9 : t9 9 = tt 9) => hQ t9 H d x1 x2 (h3.trans u3) (h7.trans u7) (h9.trans u9) ⟨by have := sm.a1; omega, by have := sm.a2; omega, by have := sm.a3; omega, by have := sm.m; omega⟩ g
      rw [hyl] at u2
      simp [L5_2, u14, u2, e1]
      exact hq _ (by simp) (by simp) (by simp)
    | succ k =>
      have hil : i < l.length := by omega
      have e1 : ((i : Int) < l.length) := by omega
      have e4 : IntKind.i64.wrap ((i : Int) + 1) = ((i + 1 : Nat) : Int) := by rw [w64 _ (by omega)]; omega
      obtain ⟨iN, hiN⟩ : ∃ n : Nat, n = i + 1 := ⟨_, rfl⟩
      rw [← hiN] at e4
      obtain ⟨b1, off, c, hyb, _, hld, _⟩ := (hy H g.base).rws.at (i := i) (by simpa using hil)
      rw [List.length_map] at hyb
      simp only [List.getElem_map] at hld
      obtain ⟨v, H2, x1', hT, g2⟩ := call_a hops hol hd g sm (by omega) l[i]
      obtain ⟨v3, H3, x2', hT3, g3⟩ := call_a hops hol hd g2.symm sm (by omega) l[i]
      have g3 := g3.symm
      obtain ⟨b2, off2, c2, hyb2, _, hld2, _⟩ := (hy H2 g2.base).rws.at (i := i) (by simpa using hil)
      rw [List.length_map] at hyb2
      simp only [List.getElem_map] at hld2
      have sm2 := sm.step (ops := ops) (mr := n1) (mw := n2) (mo := n3) l[i] (hok _ (List.getElem_mem _))
      rw [← hiN] at sm2
      have ld : H.loadN ⟨rb, 0, none⟩ 0 8 = some (dl (newD n1 n2 n3 xd)) := g.vr.loadA rfl
      have ld2 : H2.loadN ⟨rb, 0, none⟩ 0 8 = some (dl (newD n1 n2 n3 xd)) := g2.vr.loadA rfl
      obtain ⟨oc, hoc⟩ : ∃ oc, oc = l[i].cells := ⟨_, rfl⟩
      rw [← hoc] at hld hld2 hT hT3
      obtain ⟨d0, hd0⟩ : ∃ d0, d0 = dl (newD n1 n2 n3 xd) := ⟨_, rfl⟩
      have hda : dA (newD n1 n2 n3 xd) = .agg d0.toArray := by rw [hd0]
      rw [← hd0] at ld ld2
      rw [hda] at hT hT3
      have u2' := u2
      have u2'' := u2
      rw [hyb] at u2
      rw [hyb2] at u2'
      simp [L5_2, u14, u2, u7, u11, e1, hil, ld, hld]
      refine goT_of hT ?_
      simp [u14, u2', u9, u11, hil, ld2, hld2]
      refine goT_of hT3 ?_
      simp [u14, e4]
      exact ⟨k, by omega, iN, _, x1', x2', by omega, by simp [u2''], by simp [u3], by simp [u7], by simp [u9], by simp [u11], by simp, sm2, g3⟩
end
def InvA3 (H0 : Heap) (y z : Value) (n : Nat) (t0 : Tm) (k : Nat) (t : Tm) (H : Heap) : Prop :=
  ∃ i : Nat, i + k = n ∧ t 3 = t0 3 ∧ t 7 = t0 7 ∧ t 9 = t0 9 ∧ t 21 = y ∧ t 22 = z ∧ t 23 = iv i ∧ H = H0
theorem reads3 {H : Heap} {y z : Value} {rs : List R3} (hy : Rws H 3 y (rs.map row3)) (hz : Rws H 3 z (rs.map row3)) (hl : rs.length ≤ 1000) {Q : Exit → Tm → Heap → Prop} {t : Tm} (t21 : t 21 = y) (t22 : t 22 = z) (t23 : t 23 = iv 0)
    (hQ : ∀ tt, tt 3 = t 3 → tt 7 = t 7 → tt 9 = t 9 → Q (.exit 4) tt (rdy H)) : wpA Try.prog (.loop L5_3) Q t (rdy H) := by
  refine loop_at (InvA3 H y z rs.length t) rs.length ?_ ?_
  · exact ⟨0, by simp, rfl, rfl, rfl, t21, t22, t23, rfl⟩
  · rintro k tt H1 ⟨i, hik, u3, u7, u9, u21, u22, u23, rfl⟩
    obtain ⟨ay, cy, hyl⟩ := hy.len
    rw [List.length_map] at hyl
    cases k with
    | zero =>
      have e1 : ¬ ((i : Int) < rs.length) := by omega
      have hq := fun (t9 : Tm) (h3 : t9 3 = tt 3) (h7 : t9 7 = tt 7) (h9 : t9 9 = tt 9) => hQ t9 (h3.trans u3) (h7.trans u7) (h9.trans u9)
      rw [hyl] at u21
      simp [L5_3, u23, u21, e1]
      exact hq _ (by simp) (by simp) (by simp)
    | succ k =>
      have hil : i < rs.length := by omega
      have e1 : ((i : Int) < rs.length) := by omega
      have e4 : IntKind.i64.wrap ((i : Int) + 1) = ((i + 1 : Nat) : Int) := by rw [w64 _ (by omega)]; omega
      obtain ⟨iN, hiN⟩ : ∃ n : Nat, n = i + 1 := ⟨_, rfl⟩
      rw [← hiN] at e4
      obtain ⟨b1, o1, c1, hy1, _, ld1, _⟩ := hy.at (i := i) (by simpa using hil)
      obtain ⟨b2, o2, c2, hz1, _, ld2, _⟩ := hz.at (i := i) (by simpa using hil)
      rw [List.length_map] at hy1 hz1
      simp only [List.getElem_map] at ld1 ld2
      have u21' := u21
      have u22' := u22
      rw [hy1] at u21
      rw [hz1] at u22
      simp [L5_3, u23, u21, u22, e1, hil, ld1, ld2]
      refine goE_of (xs := (row3 rs[i]).toArray) (ys := (row3 rs[i]).toArray) rfl rfl (eqR3 rs[i]) ?_
      simp [u23, e4]
      exact ⟨k, by omega, iN, by omega, by simp [u3], by simp [u7], by simp [u9], by simp [u21'], by simp [u22'], by simp, rfl⟩
end Go.Proofs.Ytjpdoflmjokplaa
namespace Go.Proofs.Ytjpdoflmjokplaa
open Go.Ot Go.RowKit
set_option linter.unusedSimpArgs false
set_option linter.unusedVariables false
theorem again_T {H : Heap} (hw : H.WF) {n1 n2 n3 : Int} {xd y z : Value} {rd : List (Int × Int)} {l1 l2 : List Op} (hd : TwosB H xd rd) (okr : ∀ e ∈ rd, okI e.2) (hy : RwsB H 4 y (l1.map Op.cells)) (hok1 : ∀ o ∈ l1, okI o.v) (hz : RwsB H 4 z (l2.map Op.cells)) (hok2 : ∀ o ∈ l2, okI o.v) :
    ∃ v H', T Try.prog 5 [.agg #[iv n1, iv n2, iv n3, xd], y, z] H v H' ∧ v = .bool true := by
  refine T_by hm light5 ?_
  obtain ⟨ay, cy, hyl⟩ := hy.rws.len
  obtain ⟨az, cz, hzl⟩ := hz.rws.len
  obtain ⟨ad, cd, hdl⟩ := hd.twos.len
  rw [List.length_map] at hyl hzl
  have onH : On H H := ⟨hw, rfl, Nat.le_refl _, fun _ _ => rfl⟩
  obtain ⟨HA, hHA⟩ : ∃ HA, HA = H.new 38 4 [iv n1, iv n2, iv n3, xd] := ⟨_, rfl⟩
  have onA : On H HA := by rw [hHA]; exact onH.new' _ _ _
  have VA : Vr HA H.next 38 4 [iv n1, iv n2, iv n3, xd] := by rw [hHA]; exact Vr.mk' hw _ _ _
  have nA : HA.next = H.next + 1 := by rw [hHA]; rfl
  have hc : (Value.agg #[iv n1, iv n2, iv n3, xd]).cells.toList = [iv n1, iv n2, iv n3, xd] := rfl
  have a0 : HA.load ⟨H.next, 0, none⟩ = some (iv n1) := VA.load 0
  have a1 : HA.load ⟨H.next, 1, none⟩ = some (iv n2) := VA.load 1
  have a2 : HA.load ⟨H.next, 2, none⟩ = some (iv n3) := VA.load 2
  have a3 : HA.load ⟨H.next, 3, none⟩ = some xd := VA.load 3
  by_cases hl : 120 < l2.length
  · rw [hzl]; simp [L5, hl]
  by_cases hmm : 120 < l1.length
  · rw [hyl, hzl]; simp [L5, hl, hmm]
  have a3' := a3
  rw [hdl] at a3'
  by_cases hdd : 50 < rd.length
  · rw [hyl, hzl]
    simp [L5, hl, hmm]
    rw [← hHA]
    simp [a3', hdd]
  obtain ⟨v1, H1, T1, Q1, on1⟩ := lnewG_T onA.wf n1 n2 n3 (hd.keep onA.base).twos (by omega)
  have onH1 := onA.trans' on1
  have nx1 := on1.next
  have V1 := VA.keep on1.base (on1.keep _ (by omega))
  have b0 : H1.load ⟨H.next, 0, none⟩ = some (iv n1) := V1.load 0
  have b1 : H1.load ⟨H.next, 1, none⟩ = some (iv n2) := V1.load 1
  have b2 : H1.load ⟨H.next, 2, none⟩ = some (iv n3) := V1.load 2
  have b3 : H1.load ⟨H.next, 3, none⟩ = some xd := V1.load 3
  obtain ⟨v2, H2, T2, Q2, on2⟩ := lnewG_T onH1.wf n1 n2 n3 (hd.keep onH1.base).twos (by omega)
  have onH2 := onH1.trans' on2
  have nx2 := on2.next
  have V2 := V1.keep on2.base (on2.keep _ (by omega))
  have c0 : H2.load ⟨H.next, 0, none⟩ = some (iv n1) := V2.load 0
  have c1 : H2.load ⟨H.next, 1, none⟩ = some (iv n2) := V2.load 1
  have c2 : H2.load ⟨H.next, 2, none⟩ = some (iv n3) := V2.load 2
  have c3 : H2.load ⟨H.next, 3, none⟩ = some xd := V2.load 3
  obtain ⟨v3, H3, T3, rfl, X3⟩ := refNew_T onH2.wf n1 n2 n3 (hd.keep onH2.base).twos (by omega)
  have nx3 := X3.next
  obtain ⟨nc, hnc⟩ : ∃ nc, nc = newC n1 n2 n3 rd := ⟨_, rfl⟩
  unfold LNewQ at Q1 Q2
  rw [← hnc] at Q1 Q2 T3
  obtain ⟨rc, hrc⟩ : ∃ rc, rc = (if nc = 0 then dl (newD n1 n2 n3 xd) else z8) := ⟨_, rfl⟩
  have hrc8 : rc.length = 8 := by rw [hrc]; split <;> rfl
  rw [← hrc] at T3
  have st3 := new_storeA X3.wf 44 8 z8 rc rfl hrc8 (by decide)
  simp only [z8] at st3
  obtain ⟨H4, hH4⟩ : ∃ H4, H4 = H3.new 44 8 rc := ⟨_, rfl⟩
  rw [← hH4] at st3
  have on4 : On H2 H4 := by rw [hH4]; exact X3.on.new' _ _ _
  have onH4 := onH2.trans' on4
  have nx4 : H4.next = H3.next + 1 := by rw [hH4]; rfl
  have V4 := V2.keep on4.base (on4.keep _ (by omega))
  by_cases h0 : nc = 0
  · rw [if_pos h0] at Q1 Q2
    obtain ⟨p1, q1, hi1, x1, rfl, hpn1, ls1, hxn1⟩ := Q1
    obtain ⟨p2, q2, hi2, x2, rfl, hpn2, ls2, hxn2⟩ := Q2
    have hbad : ¬ (badN n1 || badN n2 || badN n3) = true := by
      intro hb
      have : newC n1 n2 n3 rd = 161 := by unfold newC; rw [if_pos hb]
      rw [← hnc, h0] at this
      exact absurd this (by decide)
    rw [if_pos h0] at hrc
    rw [h0] at T3
    have bnd1 := ls1.bounds onH1.wf
    have bnd2 := ls2.bounds onH2.wf
    have VR : Vr H4 H3.next 44 8 (dl (newD n1 n2 n3 xd)) := by rw [hH4, hrc]; exact Vr.mk' X3.wf _ _ _
    have o14 := on2.trans' on4
    have g4 : QQ H.base H4 ⟨HA.next, hi1, p1, q1⟩ ⟨H1.next, hi2, p2, q2⟩ (rd.map (·.1)) n1 n2 n3 ⟨[], [], [], rd.map (fun r => zeroV r.1), 0⟩ ⟨[], [], [], rd.map (fun r => zeroV r.1), 0⟩ x1 x2 H.next H3.next [iv n1, iv n2, iv n3, xd] (dl (newD n1 n2 n3 xd)) :=
      ⟨on4.wf, onH4.base, ls1.on onH1.wf o14.base o14.next o14.keep, ls2.on onH2.wf on4.base on4.next on4.keep, fun c h1 h2 => by have := bnd1 c h1; have := hxn2 c h2; omega, V4, VR,
        ⟨fun h => by have := hxn1 _ h; omega, fun h => by have := hxn2 _ h; omega⟩, ⟨fun h => by have := bnd1 _ h; omega, fun h => by have := bnd2 _ h; omega⟩⟩
    have hol : (rd.map (·.1)).length ≤ 1000 := by rw [List.length_map]; omega
    have hdB : ∀ G : Heap, G.base = H.base → TwosB G xd rd := fun G hb => hd.keep hb
    simp [L5, hyl, hzl, hl, hmm]
    rw [← hHA]
    simp [a3', hdd, a0, a1, a2]
    rw [← hdl]
    refine goT_of T1 ?_
    simp [b0, b1, b2, b3]
    refine goT_of T2 ?_
    simp [c0, c1, c2, c3]
    refine goT_of T3 ?_
    simp [hrc8, st3]
    refine ahead1 rfl hol hdB g4 ⟨by simp, by simp, by simp, by simp⟩ (fun G hb => hy.keep hb) hok1 (by omega) (by simp [hyl]) (by simp) (by simp) (by simp) ?_
    intro t5 H5 d5 x5 u2 u3 u7 u9 u11 g5
    simp at u2 u3 u9
    obtain ⟨v6, H6, x6, T6, s6, la6⟩ := lclear_T g5.wf g5.l1 hol
    have g6 := g5.turn s6 la6
    have hnow : rd.map (fun r => zeroV r.1) = (rd.map (·.1)).map zeroV := by simp
    rw [hnow] at g6
    simp [u7]
    refine goT_of T6 ?_
    simp
    refine both2 rfl hol hdB g6 ⟨by simp, by simp, by simp, by simp⟩ (fun G hb => hz.keep hb) hok2 (by omega) (by simp [u2, hzl]) (by simp [u7]) (by simp [u9]) (by simp [u11]) (by simp) ?_
    intro t7 H7 d7 x7 y7 w3 w7 w9 sm7 g7
    simp [u3] at w3
    -- what both tell
    have C1 := lens_T g7.l1
    have C2 := lens_T g7.l2
    obtain ⟨e1, G1, C3, row1⟩ := lwrites_T g7.wf g7.l1 (by have := sm7.a2; omega)
    have g8 := g7.on row1.on
    obtain ⟨e2, G2, C4, row2⟩ := lwrites_T g8.wf g8.l2 (by have := sm7.a2; omega)
    have g9 := g8.on row2.on
    have C5 := sames_T (row1.rws2.keep row1.wf row2.base row2.keep) row2.rws2 (by have := sm7.a2; omega)
    obtain ⟨e3, G3, C6, row3'⟩ := louts_T g9.wf g9.l1 (by have := sm7.a3; omega)
    have g10 := g9.on row3'.on
    obtain ⟨e4, G4, C7, row4⟩ := louts_T g10.wf g10.l2 (by have := sm7.a3; omega)
    have g11 := g10.on row4.on
    have C8 := rows_T ((Own.ints (ety := 2) (n := d7.os.length) row3'.own).keep row3'.wf row4.base row4.keep) (Own.ints (ety := 2) (n := d7.os.length) row4.own) (by have := sm7.a3; omega)
    obtain ⟨e5, G5, C9, row5⟩ := lreads_T g11.wf g11.l1 (by have := sm7.a1; omega)
    have g12 := g11.on row5.on
    obtain ⟨e6, G6, C10, row6⟩ := lreads_T g12.wf g12.l2 (by have := sm7.a1; omega)
    have g13 := g12.on row6.on
    obtain ⟨ae5, he5⟩ := row5.own.len
    obtain ⟨ae6, he6⟩ := row6.own.len
    simp [w7]
    refine goT_of C1 ?_
    simp [w9]
    refine goT_of C2 ?_
    simp [w7, w9]
    refine goT_of C3 ?_
    simp [w7, w9]
    refine goT_of C4 ?_
    simp [w7, w9]
    refine goT_of C5 ?_
    simp [w7, w9]
    refine goT_of C6 ?_
    simp [w7, w9]
    refine goT_of C7 ?_
    simp [w7, w9]
    refine goT_of C8 ?_
    simp [w7, w9]
    refine goT_of C9 ?_
    simp [w7, w9]
    refine goT_of C10 ?_
    simp [he5, he6]
    rw [← he5, ← he6]
    refine reads3 (row5.rws3.keep row5.wf row6.base row6.keep) row6.rws3 (by have := sm7.a1; omega) (by simp) (by simp) (by simp) ?_
    intro t8 y3 y7' y9
    simp [w3, w7, w9] at y3 y7' y9
    have lx : G6.load ⟨H.next, 3, none⟩ = some xd := g13.vs.load 3
    rw [hdl] at lx
    have mk : sMake G6 2 1 8 [iv 0] (iv rd.length) (iv rd.length) = some (.slice (some ⟨G6.next, 0, none⟩) rd.length 0, G6.new 2 1 (ci (List.replicate rd.length 0))) := by
      show (if _ then _ else _) = _
      rw [if_pos (by refine ⟨?_, ?_, ?_, ?_⟩ <;> omega)]
      simp [zerosA_one, ci]
    obtain ⟨GZ, hGZ⟩ : ∃ GZ, GZ = G6.new 2 1 (ci (List.replicate rd.length 0)) := ⟨_, rfl⟩
    have o13 : On G6 G6 := ⟨g13.wf, rfl, Nat.le_refl _, fun _ _ => rfl⟩
    have oZ : On G6 GZ := by rw [hGZ]; exact o13.new' _ _ _
    rw [← hGZ] at mk
    have g14 := g13.on oZ
    have zi : Ints GZ .i64 (.slice (some ⟨G6.next, 0, none⟩) rd.length 0) (List.replicate rd.length 0) := by
      refine Own.ints (ety := 2) (n := rd.length) ?_
      refine Own.mk (by simp) (by rw [B_eq oZ.base]; exact g13.wf.next_ge) ?_
      rw [hGZ]; simp [ci]
    obtain ⟨zv, hzv⟩ : ∃ zv : Value, zv = .slice (some ⟨G6.next, 0, none⟩) rd.length 0 := ⟨_, rfl⟩
    rw [← hzv] at mk zi
    have hnt : notTup zv = true := by rw [hzv]; rfl
    have hrl : (rd.map (·.1)).length = rd.length := List.length_map _
    have hnl := g14.l1.nl
    obtain ⟨f1, G7, C11, O1⟩ := lonto_T g14.wf g14.l1 hol zi (by simp; omega)
    unfold OntoQ at O1
    rw [if_pos (by rw [hnl, hrl]; simp)] at O1
    obtain ⟨w1, rfl, og1⟩ := O1
    have o15 : On GZ G7 := ⟨og1.wf, og1.base, og1.next, Og.olds og1⟩
    have g15 := g14.on o15
    obtain ⟨f2, G8, C12, O2⟩ := lonto_T g15.wf g15.l2 hol (zi.keep oZ.wf o15.base o15.keep) (by simp; omega)
    unfold OntoQ at O2
    rw [if_pos (by rw [hnl, hrl]; simp)] at O2
    obtain ⟨w2, rfl, og2⟩ := O2
    obtain ⟨aw1, hw1⟩ := og1.own.len
    obtain ⟨aw2, hw2⟩ := og2.own.len
    have hn1 : notTup w1 = true := by rw [hw1]; rfl
    have hn2 : notTup w2 = true := by rw [hw2]; rfl
    have i1 : Ints G8 .i64 w1 (ontoN (rd.map (·.1)) (List.replicate rd.length 0) d7.now (rd.map (·.1)).length) := (Own.ints (ety := 2) (n := (rd.map (·.1)).length) og1.own).keep og1.wf og2.base (Og.olds og2)
    have i2 : Ints G8 .i64 w2 (ontoN (rd.map (·.1)) (List.replicate rd.length 0) d7.now (rd.map (·.1)).length) := Own.ints (ety := 2) (n := (rd.map (·.1)).length) og2.own
    have C13 := rows_T i1 i2 (by rw [ontoN_len]; omega)
    obtain ⟨va, Ha, Ta, rfl⟩ := alive_T og2.wf
    have hcw1 : w1.cells = #[w1] := by rw [hw1]; rfl
    have hcw2 : w2.cells = #[w2] := by rw [hw2]; rfl
    simp [y3, lx, hdl, mk, y7', hnt]
    refine goT_of C11 ?_
    simp [y9, hn1, hcw1]
    refine goT_of C12 ?_
    simp [hn1, hn2, hcw1, hcw2]
    refine goT_of C13 ?_
    simp
    refine goT_of Ta ?_
    simp
  · rw [if_neg h0] at Q1 Q2
    subst Q1 Q2
    have hbb : (nc == 0) = false := by simpa using h0
    have hbb2 : (nc != 0) = true := by rw [bne, hbb]; rfl
    obtain ⟨va, Ha, Ta, rfl⟩ := alive_T on4.wf
    simp [L5, hyl, hzl, hl, hmm]
    rw [← hHA]
    simp [a3', hdd, a0, a1, a2]
    rw [← hdl]
    refine goT_of T1 ?_
    simp [b0, b1, b2, b3]
    refine goT_of T2 ?_
    simp [c0, c1, c2, c3]
    refine goT_of T3 ?_
    simp [hrc8, st3, hbb2]
    refine goT_of Ta ?_
    simp
end Go.Proofs.Ytjpdoflmjokplaa
namespace Go.Proofs.Ytjpdoflmjokplaa
open Go.Ot Go.ChangeShapes Go.WideShapes Go.ChangeAt Go.RowKit
set_option linter.unusedSimpArgs false
set_option linter.unusedVariables false
set_option maxRecDepth 100000 in
theorem rd_op {H : Heap} (ds : List Value) (h : Rd Try.prog H 3 53 ds) : ∃ a : Op, ds = a.cells ∧ okI a.v := by
  have hl : ds.length = 4 := (Go.Ot.rd_len Try.underlying53 h).trans (by kernel_rfl)
  have c3 : Try.prog.cellsOf 3 = 1 := by kernel_rfl
  have c2 : Try.prog.cellsOf 2 = 1 := by kernel_rfl
  match ds, hl with
  | [w0, w1, w2, w3], _ =>
    have g0 := rd_field Try.underlying53 h 0 rfl c3
    have g1 := rd_field Try.underlying53 h 1 rfl c3
    have g2 := rd_field Try.underlying53 h 2 rfl c3
    have g3 := rd_field Try.underlying53 h 3 rfl c2
    obtain ⟨a0, q0, f0⟩ := rd_int Try.underlying3 g0
    obtain ⟨a1, q1, f1⟩ := rd_int Try.underlying3 g1
    obtain ⟨a2, q2, f2⟩ := rd_int Try.underlying3 g2
    obtain ⟨a3, q3, f3⟩ := rd_int Try.underlying2 g3
    simp at q0 q1 q2 q3
    subst q0 q1 q2 q3
    exact ⟨⟨a0, a1, a2, a3⟩, rfl, bounds_i64 f3⟩
set_option maxRecDepth 100000 in
theorem rd_ops {H : Heap} {x0 : Value} (h0 : Rd Try.prog H 4 39 [x0]) : ∃ l : List Op, RwsB H 4 x0 (l.map Op.cells) ∧ ∀ o ∈ l, okI o.v := by
  rcases rd_slice Try.underlying39 h0 (show Try.prog.cellsOf 53 = 4 by kernel_rfl) with rfl | ⟨b, off, k, c, rfl, _, h⟩
  · exact ⟨[], .inl ⟨rfl, rfl⟩, by simp⟩
  · obtain ⟨l, hl, h⟩ := rd_all (Q := fun (a : Op) ds => ds = a.cells ∧ okI a.v) (fun ds h => rd_op ds h) h
    refine ⟨l, .inr ⟨b, off, c, by rw [List.length_map, hl], fun h0 => (h 0 (by simpa using h0)).1, fun i hi => ?_⟩, fun o ho => ?_⟩
    · have hi' : i < l.length := by simpa using hi
      obtain ⟨_, ds, _, h3, h4, _⟩ := h i hi'
      subst h4
      simp only [List.getElem_map]
      exact ⟨rfl, fun j hj => h3 j hj⟩
    · obtain ⟨i, hi, rfl⟩ := List.mem_iff_getElem.1 ho
      obtain ⟨_, _, _, _, _, h5⟩ := h i hi
      exact h5
set_option maxRecDepth 100000 in
theorem rd_red {H : Heap} (ds : List Value) (h : Rd Try.prog H 2 49 ds) : ∃ a : Int × Int, ds = row2 a ∧ okI a.2 := by
  have hl : ds.length = 2 := (Go.Ot.rd_len Try.underlying49 h).trans (by kernel_rfl)
  have c3 : Try.prog.cellsOf 47 = 1 := by kernel_rfl
  have c2 : Try.prog.cellsOf 2 = 1 := by kernel_rfl
  match ds, hl with
  | [w0, w1], _ =>
    have g0 := rd_field Try.underlying49 h 0 rfl c3
    have g1 := rd_field Try.underlying49 h 1 rfl c2
    obtain ⟨a0, q0, f0⟩ := rd_int Try.underlying47 g0
    obtain ⟨a1, q1, f1⟩ := rd_int Try.underlying2 g1
    simp at q0 q1
    subst q0 q1
    exact ⟨(a0, a1), rfl, bounds_i64 f1⟩
set_option maxRecDepth 100000 in
theorem rd_setup {H : Heap} {xs : List Value} (h : Rd Try.prog H 4 38 xs) : ∃ n1 n2 n3 xd rd, xs = [iv n1, iv n2, iv n3, xd] ∧ TwosB H xd rd ∧ ∀ e ∈ rd, okI e.2 := by
  have hl : xs.length = 4 := (Go.Ot.rd_len Try.underlying38 h).trans (by kernel_rfl)
  have c3 : Try.prog.cellsOf 3 = 1 := by kernel_rfl
  have c36 : Try.prog.cellsOf 36 = 1 := by kernel_rfl
  match xs, hl with
  | [w0, w1, w2, w3], _ =>
    have g0 := rd_field Try.underlying38 h 0 rfl c3
    have g1 := rd_field Try.underlying38 h 1 rfl c3
    have g2 := rd_field Try.underlying38 h 2 rfl c3
    have g3 := rd_field Try.underlying38 h 3 rfl c36
    obtain ⟨a0, q0, f0⟩ := rd_int Try.underlying3 g0
    obtain ⟨a1, q1, f1⟩ := rd_int Try.underlying3 g1
    obtain ⟨a2, q2, f2⟩ := rd_int Try.underlying3 g2
    simp at q0 q1 q2 g3
    subst q0 q1 q2
    refine ⟨a0, a1, a2, w3, ?_⟩
    have : ∃ l : List (Int × Int), TwosB H w3 l ∧ ∀ e ∈ l, okI e.2 := by
      rcases rd_slice Try.underlying36 g3 (show Try.prog.cellsOf 49 = 2 by kernel_rfl) with rfl | ⟨b, off, k, c, rfl, _, h⟩
      · exact ⟨[], .inl ⟨rfl, rfl⟩, by simp⟩
      · obtain ⟨l, hl, h⟩ := rd_all (Q := fun (a : Int × Int) ds => ds = row2 a ∧ okI a.2) (fun ds h => rd_red ds h) h
        refine ⟨l, .inr ⟨b, off, c, by rw [hl], fun h0 => (h 0 h0).1, fun i hi => ?_⟩, fun o ho => ?_⟩
        · obtain ⟨_, ds, _, h3, h4, _⟩ := h i hi
          subst h4
          exact ⟨h3 0 (by simp [row2]), h3 1 (by simp [row2])⟩
        · obtain ⟨i, hi, rfl⟩ := List.mem_iff_getElem.1 ho
          obtain ⟨_, _, _, _, _, h5⟩ := h i hi
          exact h5
    obtain ⟨l, h1, h2⟩ := this
    exact ⟨l, rfl, h1, h2⟩
set_option maxRecDepth 100000 in
theorem plays_U {H : Heap} (hw : H.WF) {xs : List Value} (h0 : Rd Try.prog H 4 38 xs) {x1 : Value} (h1 : Rd Try.prog H 4 39 [x1]) {x2 : Value} {m : List Int} (h2 : IntsB H .i64 x2 m) (w2 : ∀ n ∈ m, (Lit.int .i64 n).wf = true) : ∃ v H', T Try.prog 4 [.agg xs.toArray, x1, x2] H v H' ∧ v = .bool true := by
  obtain ⟨n1, n2, n3, xd, rd, rfl, hd, okr⟩ := rd_setup h0
  obtain ⟨l, hl, hok⟩ := rd_ops h1
  exact plays_T hw hd okr hl hok h2 (fun n hn => bounds_i64 (w2 n hn))
set_option maxRecDepth 100000 in
theorem again_U {H : Heap} (hw : H.WF) {xs : List Value} (h0 : Rd Try.prog H 4 38 xs) {x1 : Value} (h1 : Rd Try.prog H 4 39 [x1]) {x2 : Value} (h2 : Rd Try.prog H 4 39 [x2]) : ∃ v H', T Try.prog 5 [.agg xs.toArray, x1, x2] H v H' ∧ v = .bool true := by
  obtain ⟨n1, n2, n3, xd, rd, rfl, hd, okr⟩ := rd_setup h0
  obtain ⟨l, hl, hok⟩ := rd_ops h1
  obtain ⟨l2, hl2, hok2⟩ := rd_ops h2
  exact again_T hw hd okr hl hok hl2 hok2
end Go.Proofs.Ytjpdoflmjokplaa
