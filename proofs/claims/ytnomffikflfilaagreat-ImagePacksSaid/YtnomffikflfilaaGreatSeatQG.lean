/-
  Chapter 26: ImagePacks.
-/
import Derived.Test.YtnomffikflfilaaGreatSeatQF
namespace Go.Proofs.YtnomffikflfilaaGreat
open Go.Ot Go.RowKit
open E8 (OG Bs bc)
set_option linter.unusedSimpArgs false
set_option linter.unusedVariables false
def seqR3 : LCode → LCode | .seq _ b => b | c => c
def seqL3 : LCode → LCode | .seq a _ => a | c => c
def L3t : LCode := seqR3 (seqR3 (seqR3 (seqR3 L3)))
theorem L3_eq : L3 = .seq (seqL3 L3) (.seq (seqL3 (seqR3 L3)) (.seq (seqL3 (seqR3 (seqR3 L3))) (.seq (seqL3 (seqR3 (seqR3 (seqR3 L3)))) L3t))) := rfl
theorem draw3 {H0 H : Heap} (hw0 : H0.WF) (on : On H0 H) {J : Jb} (ok : JbOk H0 J) (C : Cfg) {a : Option Addr} {n c p : Nat} (vA : Vr H p 35 23 (runC J C (.slice a n c))) {y y3 : Value} {s : ByteArray} (s1 : sToStr H y = some (.string s)) (s3 : sToStr H y3 = some (.string s)) (e : Int)
    {t : Tm} (t1 : t 1 = ptr p) (t3 : t 3 = y) (t4 : t 4 = iv e) (t5 : t 5 = y3) (t6 : t 6 = iv e) {Q : Post} (hQ : ∀ (t' : Tm) (H' : Heap), t' 2 = .bool true → On H H' → Q .ret t' (rdy H')) : wpA Tryz.prog L3t Q t (rdy H) := by
  have w := on.wf
  have pA := play_E w J C a n c
  have rl := RL.of vA
  have lA := rl.lA
  have lJ := rl.lJ
  have lC := rl.lC
  have l22 := rl.l22
  have nxt : ∀ H4, On H H4 → T Tryz.prog 13 [.agg (runC J C (.slice a n c)).toArray] H4 (iv (playE J C n)) H4 ∧ T Tryz.prog 14 [.agg (jobC J).toArray, .agg (cfgC C).toArray, .slice a n c] H4 (iv (playE J C n)) H4 ∧ H4.loadN ⟨p, 0, none⟩ 0 11 = some (jobC J) ∧ H4.loadN ⟨p, 11, none⟩ 0 11 = some (cfgC C) ∧ H4.load ⟨p, 22, none⟩ = some (.slice a n c) := by
    intro H4 on4
    have okK := ok.on hw0 (on.trans on4)
    have r4 := RL.of (vA.on w on4)
    exact ⟨iright_T on4.wf okK C a n c, right26_T on4.wf okK C a n c, r4.lJ, r4.lC, r4.l22⟩
  obtain ⟨cs, hcs⟩ : ∃ cs, cs = runC J C (.slice a n c) := ⟨_, rfl⟩
  obtain ⟨cj, hcj⟩ : ∃ cs, cs = jobC J := ⟨_, rfl⟩
  obtain ⟨cc, hcc⟩ : ∃ cs, cs = cfgC C := ⟨_, rfl⟩
  obtain ⟨E, hE⟩ : ∃ E, E = playE J C n := ⟨_, rfl⟩
  rw [← hcs, ← hcj, ← hcc, ← hE] at nxt
  rw [← hcs] at lA pA
  rw [← hcj] at lJ
  rw [← hcc] at lC
  clear hcs hcj hcc hE rl vA
  have hse : sBin .eql (.string s) (.string s) = some (.bool true) := by
    show some (Value.bool (s.toList == s.toList)) = _
    simp
  simp [L3t, L3, seqR3, t1, t3, t4, t5, t6, s1, s3, hse, lA, lJ, lC, l22]
  refine goA_of w pA ?_
  rintro o H4 ⟨rfl, on4⟩ w4 b4 n4
  obtain ⟨iT, dT, lJ4, lC4, l224⟩ := nxt H4 on4
  have al4 := alive_T H4
  simp
  refine goT_of iT ?_
  simp [t1, lJ, lC, l22, lJ4, lC4, l224]
  refine goT_of dT ?_
  simp
  refine goT_of al4 ?_
  simp
  exact hQ _ _ (by simp) on4
theorem packs_T {H : Heap} (hw : H.WF) {J : Jb} (j0 : Jb0 H J) (jb : JbB J) (C : Cfg) {a : Option Addr} {c : Nat} {l : List Ent} (hx : Rl H (.slice a l.length c) l) (hb : ∀ e ∈ l, -9223372036854775808 ≤ e.1 ∧ e.1 ≤ 9223372036854775807) :
    T Tryz.prog 3 [.agg (runC J C (.slice a l.length c)).toArray] H (.bool true) H := by
  refine T_seen hm light3 rfl ?_
  obtain ⟨HA, hHA⟩ : ∃ HA, HA = H.new 35 23 (runC J C (.slice a l.length c)) := ⟨_, rfl⟩
  have onA : On H HA := by rw [hHA]; exact (On.refl hw).new _ _ _
  have vA : Vr HA H.next 35 23 (runC J C (.slice a l.length c)) := by rw [hHA]; exact Vr.mk' hw _ _ _
  have lA := (RL.of vA).lA
  have wA := onA.wf
  have gT := great24_T wA (j0.on hw onA) C (a := a) (n := l.length) (c := c) 50000
  have pA := play_E wA J C a l.length c
  obtain ⟨g, hg⟩ : ∃ g, g = (greatV J || decide ((50000 : Int) < (l.length : Int))) := ⟨_, rfl⟩
  rw [← hg] at gT
  have nxt : g = false → ∀ H1, On HA H1 → l.length ≤ 50000 ∧ JbOk HA J ∧ TE Tryz.prog 10 [.agg (runC J C (.slice a l.length c)).toArray] H1 (PackQ H1 J C l) ∧
      (∃ v H', T Tryz.prog 12 [.agg (jobC J).toArray, .agg (cfgC C).toArray, .slice a l.length c] H1 v H' ∧ ∃ y, v = .tuple #[y, iv (packV J C l).1] ∧ OG H1 H' nilS (packV J C l).2 y) ∧
      H1.loadN ⟨H.next, 0, none⟩ 0 11 = some (jobC J) ∧ H1.loadN ⟨H.next, 11, none⟩ 0 11 = some (cfgC C) ∧ H1.load ⟨H.next, 22, none⟩ = some (.slice a l.length c) := by
    intro hgf H1 on1
    rw [hgf] at hg
    have hg' := hg.symm
    simp only [Bool.or_eq_false_iff, decide_eq_false_iff_not] at hg'
    obtain ⟨hgJ, hl⟩ := hg'
    have hl : l.length ≤ 50000 := by omega
    have okA := (ok_of j0 hgJ).on hw onA
    have ok1 := okA.on wA on1
    have hx1 := (hx.on hw onA).on wA on1
    have r1 := RL.of (vA.on wA on1)
    exact ⟨hl, okA, pack_E on1.wf ok1 jb C hx1 (by omega) hb, packR_T on1.wf ok1 jb C hx1 hl hb, r1.lJ, r1.lC, r1.l22⟩
  have hdraw : ∀ H3, On HA H3 → JbOk HA J → ∀ {y y3 : Value} {s : ByteArray} (s1 : sToStr H3 y = some (.string s)) (s3 : sToStr H3 y3 = some (.string s)) (e : Int) {t : Tm} (t1 : t 1 = ptr H.next) (t3 : t 3 = y) (t4 : t 4 = iv e) (t5 : t 5 = y3) (t6 : t 6 = iv e) {Q : Post} (hQ : ∀ (t' : Tm) (H' : Heap), t' 2 = .bool true → On H3 H' → Q .ret t' (rdy H')), wpA Tryz.prog L3t Q t (rdy H3) :=
    fun H3 on3 okA => draw3 wA on3 okA C (vA.on wA on3)
  obtain ⟨cs, hcs⟩ : ∃ cs, cs = runC J C (.slice a l.length c) := ⟨_, rfl⟩
  have hlen : cs.length = 23 := by rw [hcs]; rfl
  obtain ⟨cj, hcj⟩ : ∃ cs, cs = jobC J := ⟨_, rfl⟩
  obtain ⟨cc, hcc⟩ : ∃ cs, cs = cfgC C := ⟨_, rfl⟩
  obtain ⟨V, hV⟩ : ∃ V, V = packV J C l := ⟨_, rfl⟩
  unfold PackQ at nxt
  simp only [← hcs, ← hcj, ← hcc, ← hV] at nxt
  rw [← hcs] at lA pA gT hHA ⊢
  clear vA hcs hcj hcc hV
  cases g with
  | true =>
    rw [L3_eq]
    simp [seqL3, seqR3, L3, hlen, ← hHA, lA]
    refine goT_of gT ?_
    simp
    exact onA.keep
  | false =>
  rw [L3_eq]
  simp [seqL3, seqR3, L3, hlen, ← hHA, lA]
  refine goT_of gT ?_
  simp [lA]
  refine goA_of wA pA ?_
  rintro o H1 ⟨rfl, on1⟩ w1 b1 n1
  obtain ⟨hl, okA, kE, _, _, _, _⟩ := nxt rfl H1 on1
  refine goA_of w1 kE ?_
  rintro o H2 ⟨on2, y, rfl, oy, ny⟩ w2 b2 n2
  have on12 := on1.trans on2
  obtain ⟨_, _, _, ⟨v3, H3, T3, y3, rfl, g3⟩, lJ2, lC2, l222⟩ := nxt rfl H2 on12
  have on3 : On H2 H3 := OG.onN g3
  have on13 := on12.trans on3
  have s1 := E8.toStr_bs (E8.Bs.keep w2 on3.base on3.keep (E8.own_bs oy))
  have s3 := E8.toStr_bs (E8.own_bs g3.own)
  obtain ⟨ya, hy⟩ := oy.len
  have nty : notTup y = true := by rw [hy]; rfl
  obtain ⟨ya3, hy3⟩ := g3.own.len
  have nty3 : notTup y3 = true := by rw [hy3]; rfl
  simp [nty, lJ2, lC2, l222]
  refine goT_of T3 ?_
  simp [nty3]
  refine hdraw H3 on13 okA s1 s3 V.1 (by simp) (by simp) (by simp) (by simp) (by simp) ?_
  intro t' H' h2 on'
  simp [h2]
  exact ((onA.trans on13).trans on').keep
set_option maxRecDepth 100000 in
theorem packs_U {H : Heap} (hw : H.WF) {cs : List Value} (h0 : Rd Tryz.prog H 7 35 cs) : ∃ v H', T Tryz.prog 3 [.agg cs.toArray] H v H' ∧ v = .bool true := by
  obtain ⟨J, C, a, c, l, rfl, ⟨hJ, jb⟩, hl, hb⟩ := rdb_run2 cs h0
  exact ⟨_, _, packs_T hw hJ jb C hl hb, rfl⟩
end Go.Proofs.YtnomffikflfilaaGreat
