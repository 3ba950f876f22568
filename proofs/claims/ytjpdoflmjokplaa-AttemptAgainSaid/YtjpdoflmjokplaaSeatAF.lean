/-
  Chapter 22: the document's log, told in full; a call of both: what stands. Chapter 22: a call of both.
-/
import Derived.Test.YtjpdoflmjokplaaSeatAC
namespace Go.Proofs.Ytjpdoflmjokplaa
open Go.Ot Go.RowKit
set_option linter.unusedSimpArgs false
set_option linter.unusedVariables false
/-- Rows of two numbers each that came in. -/
def TwosB (H : Heap) (x : Value) (l : List (Int × Int)) : Prop :=
  (x = .slice none 0 0 ∧ l = []) ∨ ∃ b off c, x = .slice (some ⟨b, off, none⟩) l.length c ∧ (0 < l.length → b < H.B) ∧ ∀ i (h : i < l.length), H.load ⟨b, off + i * 2, none⟩ = some (iv l[i].1) ∧ H.load ⟨b, off + i * 2 + 1, none⟩ = some (iv l[i].2)
theorem TwosB.twos {H : Heap} {x : Value} {l : List (Int × Int)} (h : TwosB H x l) : Twos H x l := by
  rcases h with h | ⟨b, off, c, h1, h2, h3⟩
  · exact .inl h
  · exact .inr ⟨b, off, c, h1, h3⟩
theorem TwosB.keep {H H' : Heap} {x : Value} {l : List (Int × Int)} (h : TwosB H x l) (hb : H'.base = H.base) : TwosB H' x l := by
  rcases h with h | ⟨b, off, c, rfl, h1, h2⟩
  · exact .inl h
  · refine .inr ⟨b, off, c, rfl, fun h => by rw [B_eq hb]; exact h1 h, fun i hi => ?_⟩
    rw [load_ext hb (h1 (by omega)), load_ext hb (h1 (by omega))]; exact h2 i hi
theorem Rws.frame {H H' : Heap} (hb : H'.base = H.base) {sz : Nat} {x : Value} {l : List (List Value)} (h : Rws H sz x l) (hk : ∀ b, blkOf x = some b → H'.blk b = H.blk b) : Rws H' sz x l := by
  rcases h with h | ⟨b, off, c, rfl, h2⟩
  · exact .inl h
  · refine .inr ⟨b, off, c, rfl, fun i hi => ⟨(h2 i hi).1, fun j hj => ?_⟩⟩
    rw [load_frame hb (hk b rfl)]
    exact (h2 i hi).2 j hj
/-- What the document's log says. -/
structure RL where
  rs : List R3
  ws : List (Int × Int)
  os : List Int
  is : List (Int × Int)
def DL.own (d : DL) (b : Nat) : Prop := blkOf d.xr = some b ∨ blkOf d.xw = some b ∨ blkOf d.xo = some b ∨ blkOf d.xi = some b
structure RD (H : Heap) (mr mw mo : Int) (rd : List (Int × Int)) (r : RL) (d : DL) : Prop where
  emr : d.mr = mr
  emw : d.mw = mw
  emo : d.mo = mo
  hd : TwosB H d.xd rd
  hr : Rws H 3 d.xr (r.rs.map row3)
  hw : Rws H 2 d.xw (r.ws.map row2)
  ho : Ints H .i64 d.xo r.os
  hi : Rws H 2 d.xi (r.is.map row2)
theorem RD.frame {H H' : Heap} (hb : H'.base = H.base) {mr mw mo : Int} {rd : List (Int × Int)} {r : RL} {d : DL} (h : RD H mr mw mo rd r d) (hk : ∀ b, d.own b → H'.blk b = H.blk b) : RD H' mr mw mo rd r d :=
  ⟨h.emr, h.emw, h.emo, h.hd.keep hb, Rws.frame hb h.hr (fun b e => hk b (.inl e)), Rws.frame hb h.hw (fun b e => hk b (.inr (.inl e))), Ints.frame hb h.ho (fun b e => hk b (.inr (.inr (.inl e)))), Rws.frame hb h.hi (fun b e => hk b (.inr (.inr (.inr e))))⟩
theorem RD.keep {H H' : Heap} (hw : H.WF) (hb : H'.base = H.base) (hk : ∀ b, b < H.next → H'.blk b = H.blk b) {mr mw mo : Int} {rd : List (Int × Int)} {r : RL} {d : DL} (h : RD H mr mw mo rd r d) : RD H' mr mw mo rd r d :=
  ⟨h.emr, h.emw, h.emo, h.hd.keep hb, Rws.keep hw hb hk h.hr, Rws.keep hw hb hk h.hw, Ints.keep hw hb hk h.ho, Rws.keep hw hb hk h.hi⟩
/-- The log stands, as long as its own blocks do. -/
theorem LS.same {H H' : Heap} {lo hi p q : Nat} {ops : List Int} {mr mw mo : Int} {d : LD} {x : LX} (s : LS H lo hi p q ops mr mw mo d x) (hb : H'.base = H.base) (hn : H.next ≤ H'.next) (hk : ∀ b, x.own lo hi p b → H'.blk b = H.blk b) : LS H' lo hi p q ops mr mw mo d x :=
  ⟨⟨by rw [B_eq hb]; exact s.lg.hp, by rw [hk p (.inl rfl)]; exact s.lg.bp, s.lg.ro.keep (B_eq hb) (fun b e => hk b (.inr (.inl e))), s.lg.wo.keep (B_eq hb) (fun b e => hk b (.inr (.inr (.inl e)))), s.lg.pr, s.lg.pw, s.lg.rw⟩,
   s.oo.keep (B_eq hb) (fun b e => hk b (.inr (.inr (.inr (.inl e))))), s.hp.frame hb (fun b h1 h2 => hk b (.inr (.inr (.inr (.inr ⟨h1, h2⟩))))), s.nl, s.op, s.orr, s.hpp, s.hr, s.hww, s.ho, Nat.le_trans s.hi hn⟩
theorem LA.trans {H H1 H2 : Heap} {lo hi p : Nat} {x x1 x2 : LX} (h : LA H H1 lo hi p x x1) (g : LA H1 H2 lo hi p x1 x2) : LA H H2 lo hi p x x2 :=
  ⟨g.wf, g.base.trans h.base, Nat.le_trans h.next g.next, fun b hb ho => by
    rw [g.keep b (Nat.lt_of_lt_of_le hb h.next) (fun h1 => by
      rcases h.new b h1 with h2 | h2
      · exact ho h2
      · omega), h.keep b hb ho],
   fun b hb => by
    rcases g.new b hb with h1 | h1
    · exact h.new b h1
    · exact .inr (Nat.le_trans h.next h1)⟩
theorem On.la {H H1 H2 : Heap} {lo hi p : Nat} {x x' : LX} (o : On H H1) (hx : ∀ b, x.own lo hi p b → b < H.next) (g : LA H1 H2 lo hi p x x') : LA H H2 lo hi p x x' :=
  ⟨g.wf, g.base.trans o.base, Nat.le_trans o.next g.next, fun b hb ho => by rw [g.keep b (Nat.lt_of_lt_of_le hb o.next) ho, o.keep b hb], fun b hb => by
    rcases g.new b hb with h1 | h1
    · exact .inl h1
    · exact .inr (Nat.le_trans o.next h1)⟩
structure Op where
  k : Int
  a : Int
  f : Int
  v : Int
def Op.cells (o : Op) : List Value := [iv o.k, iv o.a, iv o.f, iv o.v]
/-- Do both say alike of a write's room? -/
def flagW (mw : Int) (ws ws2 : List (Int × Int)) (a : Int) : Bool := (decide (0 ≤ wIdx a ws) || decide ((ws.length : Int) < mw)) == decide (writeC ws2 a mw = 0)
def may' (n : Nat) (c : Int) : Bool := decide (0 ≤ c) && decide (c < n)
def opD (ops : List Int) (mr mw mo : Int) (r : RL) (d : LD) (o : Op) : LD :=
  if kindV o.k = 0 ∨ kindV o.k = 1 then { d with rs := noteL d.rs (o.a, o.v, o.f) mr }
  else if kindV o.k = 2 then { d with rs := fromL d.rs o.a o.f }
  else if kindV o.k = 3 ∨ kindV o.k = 4 then (if flagW mw d.ws r.ws o.a then { d with ws := writeL d.ws o.a o.v mw } else d)
  else if kindV o.k = 5 then { d with os := emitL d.os o.v mo }
  else if kindV o.k = 6 then { d with now := addN ops d.now o.a o.v, many := if may ops o.a then d.many + 1 else d.many }
  else ⟨[], [], [], ops.map zeroV, 0⟩
def opR (ops : List Int) (mr mw mo : Int) (r : RL) (d : LD) (o : Op) : RL :=
  if kindV o.k = 0 ∨ kindV o.k = 1 then { r with rs := noteL r.rs (o.a, o.v, o.f) mr }
  else if kindV o.k = 2 then { r with rs := fromL r.rs o.a o.f }
  else if kindV o.k = 3 ∨ kindV o.k = 4 then (if flagW mw d.ws r.ws o.a then { r with ws := writeL r.ws o.a o.v mw } else r)
  else if kindV o.k = 5 then { r with os := emitL r.os o.v mo }
  else if kindV o.k = 6 then { r with is := if 0 ≤ o.a ∧ o.a < ops.length then r.is ++ [(o.a, o.v)] else r.is }
  else ⟨[], [], [], []⟩
/-- Both say the same. -/
structure Alike (ops : List Int) (mw : Int) (d : LD) (r : RL) : Prop where
  rs : d.rs = r.rs
  ws : d.ws = r.ws
  os : d.os = r.os
  now : d.now = inN ops r.is ops.length
  wl : (d.ws.length : Int) ≤ mw
theorem writeL_len {ws : List (Int × Int)} {a v mw : Int} (h : (ws.length : Int) ≤ mw) : ((writeL ws a v mw).length : Int) ≤ mw := by
  unfold writeL
  split
  · rw [List.length_set]; exact h
  · split
    · exact h
    · rw [List.length_append, List.length_singleton]; omega
theorem flagW_alike {mw : Int} {ws : List (Int × Int)} {a : Int} (h : (ws.length : Int) ≤ mw) : flagW mw ws ws a = true := by
  unfold flagW writeC
  by_cases h0 : 0 ≤ wIdx a ws
  · simp [h0]
  · by_cases h1 : (ws.length : Int) = mw
    · have : ¬ (ws.length : Int) < mw := by omega
      simp [h0, h1]
    · have : (ws.length : Int) < mw := by omega
      simp [h0, h1, this]
theorem Alike.step {ops : List Int} {mr mw mo : Int} {d : LD} {r : RL} (h : Alike ops mw d r) (h0 : 0 ≤ mw) (o : Op) : Alike ops mw (opD ops mr mw mo r d o) (opR ops mr mw mo r d o) := by
  unfold opD opR
  obtain ⟨h1, h2, h3, h4, h5⟩ := h
  split
  · exact ⟨by simp [h1], h2, h3, h4, h5⟩
  · split
    · exact ⟨by simp [h1], h2, h3, h4, h5⟩
    · split
      · rw [← h2, flagW_alike h5]
        exact ⟨h1, by simp [h2], h3, h4, writeL_len h5⟩
      · split
        · exact ⟨h1, h2, by simp [h3], h4, h5⟩
        · split
          · refine ⟨h1, h2, h3, ?_, h5⟩
            show addN ops d.now o.a o.v = _
            split
            · rename_i hc
              rw [inN_snoc ops r.is o.a o.v hc, h4]
            · rename_i hc
              rw [addN_no _ _ _ _ hc, h4]
          · exact ⟨rfl, rfl, rfl, by rw [inN_nil], by simpa using h0⟩
end Go.Proofs.Ytjpdoflmjokplaa
namespace Go.Proofs.Ytjpdoflmjokplaa
open Go.Ot Go.RowKit
set_option linter.unusedSimpArgs false
set_option linter.unusedVariables false
theorem On.trans' {H H1 H2 : Heap} (a : On H H1) (b : On H1 H2) : On H H2 := ⟨b.wf, b.base.trans a.base, Nat.le_trans a.next b.next, fun c hc => by rw [b.keep c (Nat.lt_of_lt_of_le hc a.next), a.keep c hc]⟩
theorem On.new' {H H1 : Heap} (a : On H H1) (ty sz : Nat) (c : List Value) : On H (H1.new ty sz c) :=
  ⟨WF_new a.wf _ _ _, a.base, Nat.le_trans a.next (by simp), fun b hb => by have := a.next; simp [show b ≠ H1.next by omega, a.keep b hb]⟩
theorem Xt.on {H G : Heap} (x : Xt H G) : On H G := ⟨x.wf, x.base, x.next, x.old⟩
/-- Behind the document's call: its answer is laid down, the program's call is done, the answer is handed on. -/
theorem one_tail {H HC : Heap} (hw : H.WF) (onC : On H HC) (h3 : H.next + 3 ≤ HC.next) (k6 : HC.blk (H.next + 2) = some ⟨44, 8, z8⟩) {lo hi p q : Nat} {ops : List Int} {mr mw mo : Int} {d : LD} {x : LX} (s : LS H lo hi p q ops mr mw mo d x)
    {rd : List (Int × Int)} {dd : DL} (sep : ∀ b, dd.own b → ¬ x.own lo hi p b ∧ b < H.next) {HD : Heap} (onD : On HC HD) {r' : RL} {dd' : DL} (hR : RD HD mr mw mo rd r' dd') (hown : ∀ b, dd'.own b → dd.own b ∨ (HC.next ≤ b ∧ b < HD.next)) :
    ∃ HE, sStore (HD.new 44 8 [.int .i64 0, .int .i64 0, .int .i64 0, .slice none 0 0, .slice none 0 0, .slice none 0 0, .slice none 0 0, .slice none 0 0]) 8 (ptr HD.next) (dA dd') = some HE ∧ On HC HE ∧ LS HE lo hi p q ops mr mw mo d x ∧ HE.loadN ⟨HD.next, 0, none⟩ 0 8 = some (dl dd') ∧
      ∀ HF d' x', LS HF lo hi p q ops mr mw mo d' x' → LA HE HF lo hi p x x' → HF.loadN ⟨HD.next, 0, none⟩ 0 8 = some (dl dd') ∧ ∃ HG, sStore HF 8 (ptr (H.next + 2)) (dA dd') = some HG ∧ HG.loadN ⟨H.next + 2, 0, none⟩ 0 8 = some (dl dd') ∧
        LS HG lo hi p q ops mr mw mo d' x' ∧ RD HG mr mw mo rd r' dd' ∧ (∀ b, dd'.own b → ¬ x'.own lo hi p b ∧ b < HG.next ∧ (dd.own b ∨ H.next ≤ b)) ∧ LA H HG lo hi p x x' := by
  have bnd := s.bounds hw
  have oE := onD.new' 44 8 (dl dd')
  have oHE := onC.trans' oE
  have nE : (HD.new 44 8 (dl dd')).next = HD.next + 1 := rfl
  have V : Vr (HD.new 44 8 (dl dd')) HD.next 44 8 (dl dd') := Vr.mk' onD.wf _ _ _
  have nD := onD.next
  refine ⟨HD.new 44 8 (dl dd'), new_storeA onD.wf 44 8 z8 (dl dd') rfl rfl (by decide), oE, s.on hw oHE.base oHE.next oHE.keep, V.loadA rfl, ?_⟩
  obtain ⟨HE, hHE⟩ : ∃ HE, HE = HD.new 44 8 (dl dd') := ⟨_, rfl⟩
  rw [← hHE] at oE oHE nE V ⊢
  intro HF d' x' sF la
  have VF := V.keep la.base (la.keep _ (by omega) (fun h => by have := bnd _ h; omega))
  have bF : HF.base = H.base := la.base.trans oHE.base
  have nF := la.next
  have R : Vr HF (H.next + 2) 44 8 z8 := ⟨by rw [B_eq bF]; have := hw.next_ge; omega, by
    rw [la.keep _ (by omega) (fun h => by have := bnd _ h; omega), oE.keep _ (by omega)]; exact k6, by decide⟩
  have hnew : ∀ b, x'.own lo hi p b → b < H.next ∨ HE.next ≤ b := fun b hb => by
    rcases la.new b hb with h | h
    · exact .inl (bnd b h)
    · exact .inr h
  have hRE : RD HE mr mw mo rd r' dd' := hR.keep onD.wf (by rw [hHE]; rfl) (fun b hb => by rw [hHE]; simp [show b ≠ HD.next by omega])
  have hRF : RD HF mr mw mo rd r' dd' := hRE.frame la.base (fun b hb => by
    rcases hown b hb with h | h
    · obtain ⟨s1, s2⟩ := sep b h
      exact la.keep b (by omega) s1
    · exact la.keep b (by omega) (fun h1 => by have := bnd b h1; omega))
  have nG : (HF.put (H.next + 2) (dl dd')).next = HF.next := rfl
  refine ⟨VF.loadA rfl, HF.put (H.next + 2) (dl dd'), R.storeA (by decide) (dl dd') rfl rfl, (R.put _).loadA rfl, ?_, ?_, ?_, ?_⟩
  · refine sF.same rfl (Nat.le_refl _) (fun b hb => ?_)
    have : b ≠ H.next + 2 := by
      rcases hnew b hb with h | h <;> omega
    simp [this]
  · refine hRF.frame (show (HF.put (H.next + 2) (dl dd')).base = HF.base from rfl) (fun b hb => ?_)
    have : b ≠ H.next + 2 := by
      rcases hown b hb with h | h
      · have := (sep b h).2; omega
      · omega
    simp [this]
  · intro b hb
    rcases hown b hb with h | h
    · obtain ⟨s1, s2⟩ := sep b h
      refine ⟨fun h1 => ?_, by rw [nG]; omega, .inl h⟩
      rcases la.new b h1 with h2 | h2
      · exact s1 h2
      · omega
    · refine ⟨fun h1 => ?_, by rw [nG]; omega, .inr (by omega)⟩
      rcases hnew b h1 with h2 | h2 <;> omega
  · refine ⟨WF_put la.wf _ _, bF, by rw [nG]; omega, fun b hb ho => ?_, fun b hb => ?_⟩
    · have : b ≠ H.next + 2 := by omega
      simp [this]
      rw [la.keep b (by omega) ho, oHE.keep b hb]
    · rcases la.new b hb with h | h
      · exact .inl h
      · exact .inr (by omega)
def OneV (H : Heap) (lo hi p q : Nat) (ops : List Int) (mr mw mo : Int) (rd : List (Int × Int)) (d : LD) (x : LX) (r : RL) (dd : DL) (o : Op) (v : Value) (H' : Heap) : Prop :=
  ∃ dd' ok x', v = .tuple #[dA dd', .bool ok] ∧ (Alike ops mw d r → ok = true) ∧ LS H' lo hi p q ops mr mw mo (opD ops mr mw mo r d o) x' ∧ RD H' mr mw mo rd (opR ops mr mw mo r d o) dd' ∧ (∀ b, dd'.own b → ¬ x'.own lo hi p b ∧ b < H'.next ∧ (dd.own b ∨ H.next ≤ b)) ∧ LA H H' lo hi p x x'
section
variable {H : Heap} (hw : H.WF) {lo hi p q : Nat} {ops : List Int} {mr mw mo : Int} {d : LD} {x : LX} (s : LS H lo hi p q ops mr mw mo d x) {rd : List (Int × Int)} (hops : ops = rd.map (·.1)) (hol : ops.length ≤ 1000) {r : RL} {dd : DL} (hR : RD H mr mw mo rd r dd)
  (sep : ∀ b, dd.own b → ¬ x.own lo hi p b ∧ b < H.next) (o : Op) (l1 : d.rs.length ≤ 900) (l2 : d.ws.length ≤ 900) (l3 : d.os.length ≤ 900) (l4 : r.rs.length ≤ 900) (l5 : r.ws.length ≤ 900) (l6 : r.os.length ≤ 900) (l7 : r.is.length ≤ 900) (hmany : 0 ≤ d.many ∧ d.many < 1000000)
include hw s hops hol hR sep l1 l2 l3 l4 l5 l6 l7 hmany
theorem one_T : ∃ v H', T Try.prog 12 [ptr p, dA dd, .agg o.cells.toArray] H v H' ∧ OneV H lo hi p q ops mr mw mo rd d x r dd o v H' := by
  refine T_by hm light12 ?_
  have hnB := hw.next_ge
  have bnd := s.bounds hw
  have hc2 : (Value.agg o.cells.toArray).cells.toList = o.cells := rfl
  have ho4 : o.cells.length = 4 := rfl
  obtain ⟨HA, hHA⟩ : ∃ HA, HA = H.new 44 8 (dl dd) := ⟨_, rfl⟩
  have nA : HA.next = H.next + 1 := by rw [hHA]; simp
  have onA : On H HA := by rw [hHA]; exact On.new' ⟨hw, rfl, Nat.le_refl _, fun _ _ => rfl⟩ _ _ _
  obtain ⟨HB, hHB⟩ : ∃ HB, HB = HA.new 53 4 o.cells := ⟨_, rfl⟩
  have nB : HB.next = H.next + 2 := by rw [hHB]; simp [nA]
  have onB : On H HB := by rw [hHB]; exact onA.new' _ _ _
  obtain ⟨HC, hHC⟩ : ∃ HC, HC = HB.new 44 8 z8 := ⟨_, rfl⟩
  have nC : HC.next = H.next + 3 := by rw [hHC]; simp [nB]
  have onC : On H HC := by rw [hHC]; exact onB.new' _ _ _
  have V4 : Vr HC H.next 44 8 (dl dd) := by
    rw [hHC, hHB, hHA]
    exact ((Vr.mk' hw 44 8 (dl dd)).new (WF_new hw _ _ _) _ _ _).new (by rw [← hHA, ← hHB]; exact onB.wf) _ _ _
  have V5 : Vr HC (H.next + 1) 53 4 o.cells := by rw [hHC, hHB, ← nA]; exact (Vr.mk' onA.wf _ _ _).new (by rw [← hHB]; exact onB.wf) _ _ _
  have V6 : Vr HC (H.next + 2) 44 8 z8 := by rw [hHC, ← nB]; exact Vr.mk' onB.wf _ _ _
  have at5 : ∀ H9 : Heap, On HC H9 → H9.load ⟨H.next + 1, 0, none⟩ = some (iv o.k) ∧ H9.load ⟨H.next + 1, 1, none⟩ = some (iv o.a) ∧ H9.load ⟨H.next + 1, 2, none⟩ = some (iv o.f) ∧ H9.load ⟨H.next + 1, 3, none⟩ = some (iv o.v) := by
    intro H9 h9
    have V9 := V5.keep h9.base (h9.keep _ (by omega))
    exact ⟨V9.load 0, V9.load 1, V9.load 2, V9.load 3⟩
  have lc4 : HC.loadN ⟨H.next, 0, none⟩ 0 8 = some (dl dd) := V4.loadA rfl
  have onCC : On HC HC := ⟨onC.wf, rfl, Nat.le_refl _, fun _ _ => rfl⟩
  obtain ⟨l50, l51, l52, l53⟩ := at5 HC onCC
  have hRC := hR.keep hw onC.base onC.keep
  have sC := s.on hw onC.base onC.next onC.keep
  have tail := fun {HD : Heap} (onD : On HC HD) {r' : RL} {dd' : DL} (hR' : RD HD mr mw mo rd r' dd') (hown) => one_tail hw onC (by omega) V6.bq s sep onD (rd := rd) (dd := dd) hR' hown
  have hN1 : H.new 44 8 (dl dd) = HA := hHA.symm
  have hN2 : HA.new 53 4 o.cells = HB := hHB.symm
  have hN3 : HB.new 44 8 [.int .i64 0, .int .i64 0, .int .i64 0, .slice none 0 0, .slice none 0 0, .slice none 0 0, .slice none 0 0, .slice none 0 0] = HC := hHC.symm
  obtain ⟨d0, hd0⟩ : ∃ d0, d0 = dl dd := ⟨_, rfl⟩
  have hda : dA dd = .agg d0.toArray := by rw [hd0]
  have hd8 : d0.length = 8 := by rw [hd0]; rfl
  have hTk := kind_T (H := HC) o.k
  obtain ⟨k, hk⟩ : ∃ k, k = kindV o.k := ⟨_, rfl⟩
  rw [← hk] at hTk
  by_cases h01 : k = 0 ∨ k = 1
  · obtain ⟨v1, HD, hT, dd', rfl, XD, x1, e1, w1⟩ := refNote_T onC.wf dd hRC.hr (o.a, o.v, o.f) (by omega)
    rw [hRC.emr] at hT x1
    have hR' : RD HD mr mw mo rd { r with rs := noteL r.rs (o.a, o.v, o.f) mr } dd' := by
      rw [e1]
      exact ⟨hR.emr, hR.emw, hR.emo, hRC.hd.keep XD.base, x1, XD.rws hRC.hw, XD.ints hRC.ho, XD.rws hRC.hi⟩
    obtain ⟨HE, s1, onE, sE, ldE, fin⟩ := tail XD.on hR' (fun b hb => by
      rw [e1] at hb
      rcases hb with h | h | h | h
      · rcases w1 b h with h | h
        · exact .inl (.inl h)
        · exact .inr h
      · exact .inl (.inr (.inl h))
      · exact .inl (.inr (.inr (.inl h)))
      · exact .inl (.inr (.inr (.inr h))))
    obtain ⟨HF, x', hT2, sF, la⟩ := lnote_T onE.wf sE (o.a, o.v, o.f) (by omega)
    obtain ⟨ldF, HG, s2, ldG, sG, rG, sepG, laG⟩ := fin HF _ x' sF la
    obtain ⟨l60, l61, l62, l63⟩ := at5 HE onE
    have hok : Alike ops mw d r → (noteC d.rs (o.a, o.v, o.f) mr == noteC r.rs (o.a, o.v, o.f) mr) = true := fun h => by rw [h.rs]; simp
    obtain ⟨c1, hc1⟩ : ∃ c, c = noteC r.rs (o.a, o.v, o.f) mr := ⟨_, rfl⟩
    obtain ⟨c2, hc2'⟩ : ∃ c, c = noteC d.rs (o.a, o.v, o.f) mr := ⟨_, rfl⟩
    rw [← hc1] at hT hok
    rw [← hc2'] at hT2 hok
    obtain ⟨ds, hds⟩ : ∃ ds, ds = dl dd' := ⟨_, rfl⟩
    have hda2 : dA dd' = .agg ds.toArray := by rw [hds]
    have hd28 : ds.length = 8 := by rw [hds]; rfl
    rw [hda] at hT ⊢
    rw [hda2] at hT s1 s2
    rw [← hd0] at hN1 lc4
    rw [← hds] at ldE ldF ldG
    simp only [row3] at hT hT2
    have eD : opD ops mr mw mo r d o = { d with rs := noteL d.rs (o.a, o.v, o.f) mr } := by unfold opD; rw [← hk, if_pos h01]
    have eR : opR ops mr mw mo r d o = { r with rs := noteL r.rs (o.a, o.v, o.f) mr } := by unfold opR; rw [← hk, if_pos h01]
    rw [← eD] at sG
    rw [← eR] at rG
    have Z : OneV H lo hi p q ops mr mw mo rd d x r dd o (.tuple #[dA dd', .bool (c2 == c1)]) HG := ⟨dd', c2 == c1, x', rfl, hok, sG, rG, sepG, laG⟩
    rw [hda2] at Z
    rcases h01 with h0 | h0
    · simp [L12, hN1, hc2, hN2, nA, hN3, nB, hd8, ho4, l50]
      refine goT_of hTk ?_
      simp [h0, lc4, l51, l52, l53]
      refine goT_of hT ?_
      simp [s1, ldE, l61, l62, l63]
      refine goT_of hT2 ?_
      simp [ldF, s2, ldG]
      exact Z
    · simp [L12, hN1, hc2, hN2, nA, hN3, nB, hd8, ho4, l50]
      refine goT_of hTk ?_
      simp [h0, lc4, l51, l52, l53]
      refine goT_of hT ?_
      simp [s1, ldE, l61, l62, l63]
      refine goT_of hT2 ?_
      simp [ldF, s2, ldG]
      exact Z
  have n0 : (k == 0) = false := by simp; omega
  have n1 : (k == 1) = false := by simp; omega
  by_cases h2 : k = 2
  · obtain ⟨v1, HD, hT, dd', rfl, XD, x1, e1, w1⟩ := refFrom_T onC.wf dd hRC.hr o.a o.f (by omega)
    have hR' : RD HD mr mw mo rd { r with rs := fromL r.rs o.a o.f } dd' := by
      rw [e1]
      exact ⟨hR.emr, hR.emw, hR.emo, hRC.hd.keep XD.base, x1, XD.rws hRC.hw, XD.ints hRC.ho, XD.rws hRC.hi⟩
    obtain ⟨HE, s1, onE, sE, ldE, fin⟩ := tail XD.on hR' (fun b hb => by
      rw [e1] at hb
      rcases hb with h | h | h | h
      · rcases w1 b h with h | h
        · exact .inl (.inl h)
        · exact .inr h
      · exact .inl (.inr (.inl h))
      · exact .inl (.inr (.inr (.inl h)))
      · exact .inl (.inr (.inr (.inr h))))
    obtain ⟨HF, x', hT2, sF, la⟩ := lfrom_T onE.wf sE o.a o.f (by omega)
    obtain ⟨ldF, HG, s2, ldG, sG, rG, sepG, laG⟩ := fin HF _ x' sF la
    obtain ⟨l60, l61, l62, l63⟩ := at5 HE onE
    have hok : Alike ops mw d r → (decide (0 ≤ rIdx o.a d.rs) == decide (0 ≤ rIdx o.a r.rs)) = true := fun h => by rw [h.rs]; simp
    obtain ⟨c1, hc1⟩ : ∃ c, c = decide (0 ≤ rIdx o.a r.rs) := ⟨_, rfl⟩
    obtain ⟨c2, hc2'⟩ : ∃ c, c = decide (0 ≤ rIdx o.a d.rs) := ⟨_, rfl⟩
    rw [← hc1] at hT hok
    rw [← hc2'] at hT2 hok
    obtain ⟨ds, hds⟩ : ∃ ds, ds = dl dd' := ⟨_, rfl⟩
    have hda2 : dA dd' = .agg ds.toArray := by rw [hds]
    have hd28 : ds.length = 8 := by rw [hds]; rfl
    rw [hda] at hT ⊢
    rw [hda2] at hT s1 s2
    rw [← hd0] at hN1 lc4
    rw [← hds] at ldE ldF ldG
    have eD : opD ops mr mw mo r d o = { d with rs := fromL d.rs o.a o.f } := by unfold opD; rw [← hk, if_neg h01, if_pos h2]
    have eR : opR ops mr mw mo r d o = { r with rs := fromL r.rs o.a o.f } := by unfold opR; rw [← hk, if_neg h01, if_pos h2]
    rw [← eD] at sG
    rw [← eR] at rG
    have Z : OneV H lo hi p q ops mr mw mo rd d x r dd o (.tuple #[dA dd', .bool (c2 == c1)]) HG := ⟨dd', c2 == c1, x', rfl, hok, sG, rG, sepG, laG⟩
    rw [hda2] at Z
    simp [L12, hN1, hc2, hN2, nA, hN3, nB, hd8, ho4, l50]
    refine goT_of hTk ?_
    simp [n0, n1, h2, lc4, l51, l52, l53]
    refine goT_of hT ?_
    simp [s1, ldE, l61, l62, l63]
    refine goT_of hT2 ?_
    simp [ldF, s2, ldG]
    exact Z
  have n2 : (k == 2) = false := by simp; omega
  by_cases h34 : k = 3 ∨ k = 4
  · obtain ⟨v1, HD1, hT1, d1, rfl, XD1, -, -, -⟩ := refWrite_T onC.wf dd hRC.hw o.a o.v (by omega)
    rw [hRC.emw] at hT1
    have oD1 := XD1.on
    have nD1 := oD1.next
    have oE1 := oD1.new' 44 8 (dl d1)
    have V1 : Vr (HD1.new 44 8 (dl d1)) HD1.next 44 8 (dl d1) := Vr.mk' oD1.wf _ _ _
    have s1a := new_storeA oD1.wf 44 8 z8 (dl d1) rfl rfl (by decide)
    simp only [z8] at s1a
    obtain ⟨HE1, hHE1⟩ : ∃ HE1, HE1 = HD1.new 44 8 (dl d1) := ⟨_, rfl⟩
    have nE1 : HE1.next = HD1.next + 1 := by rw [hHE1]; rfl
    rw [← hHE1] at oE1 V1 s1a
    have oHE1 := onC.trans' oE1
    have sE1 := s.on hw oHE1.base oHE1.next oHE1.keep
    have hRE1 := hR.keep hw oHE1.base oHE1.keep
    have hTr := lroom_T oE1.wf sE1 o.a (by omega)
    have V4E := V4.keep oE1.base (oE1.keep _ (by omega))
    have l4E : HE1.loadN ⟨H.next, 0, none⟩ 0 8 = some (dl dd) := V4E.loadA rfl
    obtain ⟨m0, m1, m2, m3⟩ := at5 HE1 oE1
    obtain ⟨c1, hc1⟩ : ∃ c, c = writeC r.ws o.a mw := ⟨_, rfl⟩
    obtain ⟨rm, hrm⟩ : ∃ c, c = (decide (0 ≤ wIdx o.a d.ws) || decide ((d.ws.length : Int) < mw)) := ⟨_, rfl⟩
    have hfl : flagW mw d.ws r.ws o.a = (rm == (c1 == 0)) := by
      have e : (c1 == 0) = decide (c1 = 0) := by by_cases hz : c1 = 0 <;> simp [hz]
      unfold flagW; rw [← hrm, ← hc1, e]
    rw [← hc1] at hT1
    rw [← hrm] at hTr
    obtain ⟨e1s, he1s⟩ : ∃ ds, ds = dl d1 := ⟨_, rfl⟩
    have hda1 : dA d1 = .agg e1s.toArray := by rw [he1s]
    rw [hda] at hT1 ⊢
    rw [hda1] at hT1
    rw [← he1s] at s1a
    by_cases hf : flagW mw d.ws r.ws o.a = true
    · obtain ⟨v2, HD, hT, dd', rfl, XD, x1, e1, w1⟩ := refWrite_T oE1.wf dd hRE1.hw o.a o.v (by omega)
      rw [hRE1.emw] at hT x1
      have hR' : RD HD mr mw mo rd { r with ws := writeL r.ws o.a o.v mw } dd' := by
        rw [e1]
        exact ⟨hR.emr, hR.emw, hR.emo, hRE1.hd.keep XD.base, XD.rws hRE1.hr, x1, XD.ints hRE1.ho, XD.rws hRE1.hi⟩
      obtain ⟨HE, s1, onE, sE, ldE, fin⟩ := tail (oE1.trans' XD.on) hR' (fun b hb => by
        have := oE1.next
        rw [e1] at hb
        rcases hb with h | h | h | h
        · exact .inl (.inl h)
        · rcases w1 b h with h | h
          · exact .inl (.inr (.inl h))
          · exact .inr (by omega)
        · exact .inl (.inr (.inr (.inl h)))
        · exact .inl (.inr (.inr (.inr h))))
      obtain ⟨HF, x', hT2, sF, la⟩ := lwrite_T onE.wf sE o.a o.v (by omega)
      obtain ⟨ldF, HG, s2, ldG, sG, rG, sepG, laG⟩ := fin HF _ x' sF la
      obtain ⟨l60, l61, l62, l63⟩ := at5 HE onE
      have hok : Alike ops mw d r → (writeC d.ws o.a mw == c1) = true := fun h => by rw [hc1, h.ws]; simp
      obtain ⟨c2, hc2'⟩ : ∃ c, c = writeC d.ws o.a mw := ⟨_, rfl⟩
      rw [← hc1] at hT
      rw [← hc2'] at hT2 hok
      obtain ⟨ds, hds⟩ : ∃ ds, ds = dl dd' := ⟨_, rfl⟩
      have hda2 : dA dd' = .agg ds.toArray := by rw [hds]
      have hd28 : ds.length = 8 := by rw [hds]; rfl
      rw [hda] at hT
      rw [hda2] at hT s1 s2
      rw [← hd0] at hN1 lc4 l4E
      rw [← hds] at ldE ldF ldG
      have eD : opD ops mr mw mo r d o = { d with ws := writeL d.ws o.a o.v mw } := by unfold opD; rw [← hk, if_neg h01, if_neg h2, if_pos h34, if_pos hf]
      have eR : opR ops mr mw mo r d o = { r with ws := writeL r.ws o.a o.v mw } := by unfold opR; rw [← hk, if_neg h01, if_neg h2, if_pos h34, if_pos hf]
      rw [← eD] at sG
      rw [← eR] at rG
      have Z : OneV H lo hi p q ops mr mw mo rd d x r dd o (.tuple #[dA dd', .bool (c2 == c1)]) HG := ⟨dd', c2 == c1, x', rfl, hok, sG, rG, sepG, laG⟩
      rw [hda2] at Z
      rw [hfl] at hf
      have hf2 : rm = (c1 == 0) := by simpa using hf
      rcases h34 with h0 | h0
      · simp [L12, hN1, hc2, hN2, nA, hN3, nB, hd8, ho4, l50]
        refine goT_of hTk ?_
        simp [n0, n1, n2, h0, lc4, l51, l52, l53]
        refine goT_of hT1 ?_
        simp [s1a, m1]
        refine goT_of hTr ?_
        simp [hf2, l4E, m1, m3]
        refine goT_of hT ?_
        simp [s1, ldE, l61, l62, l63]
        refine goT_of hT2 ?_
        simp [ldF, s2, ldG]
        exact Z
      · simp [L12, hN1, hc2, hN2, nA, hN3, nB, hd8, ho4, l50]
        refine goT_of hTk ?_
        simp [n0, n1, n2, h0, lc4, l51, l52, l53]
        refine goT_of hT1 ?_
        simp [s1a, m1]
        refine goT_of hTr ?_
        simp [hf2, l4E, m1, m3]
        refine goT_of hT ?_
        simp [s1, ldE, l61, l62, l63]
        refine goT_of hT2 ?_
        simp [ldF, s2, ldG]
        exact Z
    · have eD : opD ops mr mw mo r d o = d := by unfold opD; rw [← hk, if_neg h01, if_neg h2, if_pos h34, if_neg hf]
      have eR : opR ops mr mw mo r d o = r := by unfold opR; rw [← hk, if_neg h01, if_neg h2, if_pos h34, if_neg hf]
      have hno : Alike ops mw d r → false = true := fun h => absurd (by rw [← h.ws]; exact flagW_alike h.wl) hf
      have R6 : Vr HE1 (H.next + 2) 44 8 z8 := V6.keep oE1.base (oE1.keep _ (by omega))
      have s2 := R6.storeA (m := 8) (by decide) (dl dd) rfl rfl
      have ldG := (R6.put (dl dd)).loadA (m := 8) rfl
      have lt6 : ∀ b, b < H.next → b ≠ H.next + 2 := fun b hb => by omega
      have sG : LS (HE1.put (H.next + 2) (dl dd)) lo hi p q ops mr mw mo d x := sE1.same rfl (Nat.le_refl _) (fun b hb => by simp [lt6 b (bnd b hb)])
      have rG : RD (HE1.put (H.next + 2) (dl dd)) mr mw mo rd r dd := hRE1.frame (show (HE1.put (H.next + 2) (dl dd)).base = HE1.base from rfl) (fun b hb => by simp [lt6 b (sep b hb).2])
      have laG : LA H (HE1.put (H.next + 2) (dl dd)) lo hi p x x := ⟨WF_put oE1.wf _ _, oHE1.base, oHE1.next, fun b hb _ => by
        simp [lt6 b hb]
        exact oHE1.keep b hb, fun b hb => .inl hb⟩
      obtain ⟨HG, hHG⟩ : ∃ HG, HG = HE1.put (H.next + 2) (dl dd) := ⟨_, rfl⟩
      have nG : HG.next = HE1.next := by rw [hHG]; rfl
      rw [← hHG] at s2 ldG sG rG laG
      have Z : OneV H lo hi p q ops mr mw mo rd d x r dd o (.tuple #[dA dd, .bool false]) HG := ⟨dd, false, x, rfl, hno, by rw [eD]; exact sG, by rw [eR]; exact rG, fun b hb => ⟨(sep b hb).1, by have := (sep b hb).2; have := oHE1.next; omega, .inl hb⟩, laG⟩
      rw [hda] at Z
      rw [← hd0] at hN1 lc4 l4E s2 ldG
      rw [hfl] at hf
      have hf2 : ¬ rm = (c1 == 0) := by simpa using hf
      rcases h34 with h0 | h0
      · simp [L12, hN1, hc2, hN2, nA, hN3, nB, hd8, ho4, l50]
        refine goT_of hTk ?_
        simp [n0, n1, n2, h0, lc4, l51, l52, l53]
        refine goT_of hT1 ?_
        simp [s1a, m1]
        refine goT_of hTr ?_
        simp [hf2, l4E, s2, ldG]
        exact Z
      · simp [L12, hN1, hc2, hN2, nA, hN3, nB, hd8, ho4, l50]
        refine goT_of hTk ?_
        simp [n0, n1, n2, h0, lc4, l51, l52, l53]
        refine goT_of hT1 ?_
        simp [s1a, m1]
        refine goT_of hTr ?_
        simp [hf2, l4E, s2, ldG]
        exact Z
  have n3 : (k == 3) = false := by simp; omega
  have n4 : (k == 4) = false := by simp; omega
  by_cases h5 : k = 5
  · obtain ⟨v1, HD, hT, dd', rfl, XD, x1, e1, w1⟩ := refEmit_T onC.wf dd hRC.ho o.v (by omega)
    rw [hRC.emo] at hT x1
    have hR' : RD HD mr mw mo rd { r with os := emitL r.os o.v mo } dd' := by
      rw [e1]
      exact ⟨hR.emr, hR.emw, hR.emo, hRC.hd.keep XD.base, XD.rws hRC.hr, XD.rws hRC.hw, x1, XD.rws hRC.hi⟩
    obtain ⟨HE, s1, onE, sE, ldE, fin⟩ := tail XD.on hR' (fun b hb => by
      rw [e1] at hb
      rcases hb with h | h | h | h
      · exact .inl (.inl h)
      · exact .inl (.inr (.inl h))
      · rcases w1 b h with h | h
        · exact .inl (.inr (.inr (.inl h)))
        · exact .inr h
      · exact .inl (.inr (.inr (.inr h))))
    obtain ⟨HF, x', hT2, sF, la⟩ := lemit_T onE.wf sE o.v (by omega)
    obtain ⟨ldF, HG, s2, ldG, sG, rG, sepG, laG⟩ := fin HF _ x' sF la
    obtain ⟨l60, l61, l62, l63⟩ := at5 HE onE
    have hok : Alike ops mw d r → (emitC d.os mo == emitC r.os mo) = true := fun h => by rw [h.os]; simp
    obtain ⟨c1, hc1⟩ : ∃ c, c = emitC r.os mo := ⟨_, rfl⟩
    obtain ⟨c2, hc2'⟩ : ∃ c, c = emitC d.os mo := ⟨_, rfl⟩
    rw [← hc1] at hT hok
    rw [← hc2'] at hT2 hok
    obtain ⟨ds, hds⟩ : ∃ ds, ds = dl dd' := ⟨_, rfl⟩
    have hda2 : dA dd' = .agg ds.toArray := by rw [hds]
    have hd28 : ds.length = 8 := by rw [hds]; rfl
    rw [hda] at hT ⊢
    rw [hda2] at hT s1 s2
    rw [← hd0] at hN1 lc4
    rw [← hds] at ldE ldF ldG
    have eD : opD ops mr mw mo r d o = { d with os := emitL d.os o.v mo } := by unfold opD; rw [← hk, if_neg h01, if_neg h2, if_neg h34, if_pos h5]
    have eR : opR ops mr mw mo r d o = { r with os := emitL r.os o.v mo } := by unfold opR; rw [← hk, if_neg h01, if_neg h2, if_neg h34, if_pos h5]
    rw [← eD] at sG
    rw [← eR] at rG
    have Z : OneV H lo hi p q ops mr mw mo rd d x r dd o (.tuple #[dA dd', .bool (c2 == c1)]) HG := ⟨dd', c2 == c1, x', rfl, hok, sG, rG, sepG, laG⟩
    rw [hda2] at Z
    simp [L12, hN1, hc2, hN2, nA, hN3, nB, hd8, ho4, l50]
    refine goT_of hTk ?_
    simp [n0, n1, n2, n3, n4, h5, lc4, l51, l52, l53]
    refine goT_of hT ?_
    simp [s1, ldE, l61, l62, l63]
    refine goT_of hT2 ?_
    simp [ldF, s2, ldG]
    exact Z
  have n5 : (k == 5) = false := by simp; omega
  by_cases h6 : k = 6
  · obtain ⟨v1, HD, hT, dd', rfl, XD, x1, e1, w1⟩ := refInto_T onC.wf dd hRC.hd.twos hRC.hi o.a o.v (by omega)
    have hR' : RD HD mr mw mo rd { r with is := if 0 ≤ o.a ∧ o.a < ops.length then r.is ++ [(o.a, o.v)] else r.is } dd' := by
      rw [e1]
      exact ⟨hR.emr, hR.emw, hR.emo, hRC.hd.keep XD.base, XD.rws hRC.hr, XD.rws hRC.hw, XD.ints hRC.ho, by rw [hops, List.length_map]; exact x1⟩
    obtain ⟨HE, s1, onE, sE, ldE, fin⟩ := tail XD.on hR' (fun b hb => by
      rw [e1] at hb
      rcases hb with h | h | h | h
      · exact .inl (.inl h)
      · exact .inl (.inr (.inl h))
      · exact .inl (.inr (.inr (.inl h)))
      · rcases w1 b h with h | h
        · exact .inl (.inr (.inr (.inr h)))
        · exact .inr h)
    obtain ⟨HF, hT2, sF, la⟩ := linto_T onE.wf sE o.a o.v ⟨by unfold okI; omega, by omega⟩ hol
    obtain ⟨ldF, HG, s2, ldG, sG, rG, sepG, laG⟩ := fin HF _ x sF la
    obtain ⟨l60, l61, l62, l63⟩ := at5 HE onE
    have hok : Alike ops mw d r → (may ops o.a == (decide (0 ≤ o.a) && decide (o.a < rd.length))) = true := fun h => by rw [hops]; simp [may]
    obtain ⟨c1, hc1⟩ : ∃ c, c = (decide (0 ≤ o.a) && decide (o.a < rd.length)) := ⟨_, rfl⟩
    obtain ⟨c2, hc2'⟩ : ∃ c, c = may ops o.a := ⟨_, rfl⟩
    rw [← hc1] at hT hok
    rw [← hc2'] at hT2 hok
    obtain ⟨ds, hds⟩ : ∃ ds, ds = dl dd' := ⟨_, rfl⟩
    have hda2 : dA dd' = .agg ds.toArray := by rw [hds]
    have hd28 : ds.length = 8 := by rw [hds]; rfl
    rw [hda] at hT ⊢
    rw [hda2] at hT s1 s2
    rw [← hd0] at hN1 lc4
    rw [← hds] at ldE ldF ldG
    have eD : opD ops mr mw mo r d o = { d with now := addN ops d.now o.a o.v, many := if may ops o.a then d.many + 1 else d.many } := by unfold opD; rw [← hk, if_neg h01, if_neg h2, if_neg h34, if_neg h5, if_pos h6]
    have eR : opR ops mr mw mo r d o = { r with is := if 0 ≤ o.a ∧ o.a < ops.length then r.is ++ [(o.a, o.v)] else r.is } := by unfold opR; rw [← hk, if_neg h01, if_neg h2, if_neg h34, if_neg h5, if_pos h6]
    rw [← eD] at sG
    rw [← eR] at rG
    have Z : OneV H lo hi p q ops mr mw mo rd d x r dd o (.tuple #[dA dd', .bool (c2 == c1)]) HG := ⟨dd', c2 == c1, x, rfl, hok, sG, rG, sepG, laG⟩
    rw [hda2] at Z
    simp [L12, hN1, hc2, hN2, nA, hN3, nB, hd8, ho4, l50]
    refine goT_of hTk ?_
    simp [n0, n1, n2, n3, n4, n5, h6, lc4, l51, l52, l53]
    refine goT_of hT ?_
    simp [s1, ldE, l61, l62, l63]
    refine goT_of hT2 ?_
    simp [ldF, s2, ldG]
    exact Z
  have n6 : (k == 6) = false := by simp; omega
  obtain ⟨v1, HD, x', hT, sD, la⟩ := lclear_T onC.wf sC hol
  have la1 := onC.la bnd la
  have V4D := V4.keep la.base (la.keep _ (by omega) (fun h => by have := bnd _ h; omega))
  have V6D := V6.keep la.base (la.keep _ (by omega) (fun h => by have := bnd _ h; omega))
  have l4D : HD.loadN ⟨H.next, 0, none⟩ 0 8 = some (dl dd) := V4D.loadA rfl
  obtain ⟨v2, HE, hT2, rfl, sm⟩ := refClear_T la.wf dd
  have XE := (Xt.refl la.wf).call hT2 sm
  have sE := sD.on la.wf XE.base XE.next XE.old
  have V6E := XE.vr V6D
  obtain ⟨dd', hdd⟩ : ∃ dd' : DL, dd' = { dd with xr := .slice none 0 0, xw := .slice none 0 0, xo := .slice none 0 0, xi := .slice none 0 0 } := ⟨_, rfl⟩
  rw [← hdd] at hT2
  have s2 := V6E.storeA (m := 8) (by decide) (dl dd') rfl rfl
  have ldG := (V6E.put (dl dd')).loadA (m := 8) rfl
  have nDE := XE.next
  have nCD := la.next
  have ne6 : ∀ b, x'.own lo hi p b → b ≠ H.next + 2 := fun b hb => by
    rcases la.new b hb with h | h
    · have := bnd b h; omega
    · omega
  have sG : LS (HE.put (H.next + 2) (dl dd')) lo hi p q ops mr mw mo ⟨[], [], [], ops.map zeroV, 0⟩ x' := sE.same rfl (Nat.le_refl _) (fun b hb => by simp [ne6 b hb])
  have rG : RD (HE.put (H.next + 2) (dl dd')) mr mw mo rd ⟨[], [], [], []⟩ dd' := by
    rw [hdd]
    exact ⟨hR.emr, hR.emw, hR.emo, hR.hd.keep (XE.base.trans la1.base), .inl ⟨rfl, rfl⟩, .inl ⟨rfl, rfl⟩, .inl ⟨rfl, rfl⟩, .inl ⟨rfl, rfl⟩⟩
  have laG : LA H (HE.put (H.next + 2) (dl dd')) lo hi p x x' := ⟨WF_put XE.wf _ _, XE.base.trans la1.base, by show H.next ≤ HE.next; omega, fun b hb ho => by
    simp [show b ≠ H.next + 2 by omega]
    rw [XE.old b (by omega)]
    exact la1.keep b hb ho, fun b hb => la1.new b hb⟩
  have eD : opD ops mr mw mo r d o = ⟨[], [], [], ops.map zeroV, 0⟩ := by unfold opD; rw [← hk, if_neg h01, if_neg h2, if_neg h34, if_neg h5, if_neg h6]
  have eR : opR ops mr mw mo r d o = ⟨[], [], [], []⟩ := by unfold opR; rw [← hk, if_neg h01, if_neg h2, if_neg h34, if_neg h5, if_neg h6]
  obtain ⟨HG, hHG⟩ : ∃ HG, HG = HE.put (H.next + 2) (dl dd') := ⟨_, rfl⟩
  rw [← hHG] at s2 ldG sG rG laG
  have Z : OneV H lo hi p q ops mr mw mo rd d x r dd o (.tuple #[dA dd', .bool true]) HG := ⟨dd', true, x', rfl, fun _ => rfl, by rw [eD]; exact sG, by rw [eR]; exact rG, (fun b hb => by
    rw [hdd] at hb
    rcases hb with h | h | h | h <;> cases h), laG⟩
  obtain ⟨ds, hds⟩ : ∃ ds, ds = dl dd' := ⟨_, rfl⟩
  have hda2 : dA dd' = .agg ds.toArray := by rw [hds]
  rw [hda] at hT2 ⊢
  rw [hda2] at hT2 Z
  rw [← hd0] at hN1 lc4 l4D
  rw [← hds] at s2 ldG
  simp [L12, hN1, hc2, hN2, nA, hN3, nB, hd8, ho4, l50]
  refine goT_of hTk ?_
  simp [n0, n1, n2, n3, n4, n5, n6]
  refine goT_of hT ?_
  simp [l4D]
  refine goT_of hT2 ?_
  simp [s2, ldG]
  exact Z
end
end Go.Proofs.Ytjpdoflmjokplaa
