/-
  Chapter 26: rows of entries that may be read; two entries alike; the document's Same. Chapter 26: rounds, in plain: how many a row of entries has. Chapter 26: the program's Rounds. Chapter 26: which configs may be, by both.
-/
import Derived.Test.YtnomffikflfilaaGreatSeatBE
namespace Go.Proofs.YtnomffikflfilaaGreat
open Go.Ot Go.RowKit
set_option linter.unusedSimpArgs false
set_option linter.unusedVariables false
abbrev Ent := Int × Bool
def erow (e : Ent) : List Value := [iv e.1, .bool e.2]
def ec (l : List Ent) : List Value := (l.map erow).flatten
theorem ec_append (a b : List Ent) : ec (a ++ b) = ec a ++ ec b := by simp [ec]
abbrev Rl (H : Heap) (x : Value) (l : List Ent) : Prop := Rws H 2 x (l.map erow)
theorem erow_len (l : List Ent) : ∀ r ∈ l.map erow, r.length = 2 := by
  intro r hr; obtain ⟨q, _, rfl⟩ := List.mem_map.1 hr; rfl
theorem Rl.get {H : Heap} {x : Value} {l : List Ent} (h : Rl H x l) {i : Nat} (hi : i < l.length) :
    ∃ b off c, x = .slice (some ⟨b, off, none⟩) l.length c ∧ H.loadN ⟨b, off + i * 2, none⟩ 0 2 = some (erow l[i]) ∧ H.load ⟨b, off + i * 2, none⟩ = some (iv l[i].1) ∧ H.load ⟨b, off + i * 2 + 1, none⟩ = some (.bool l[i].2) := by
  obtain ⟨b, off, c, hx, h1, h2, h3⟩ := Rws.at h (i := i) (by simpa using hi)
  simp only [List.getElem_map] at h2 h3
  refine ⟨b, off, c, by simpa using hx, h2, h3 0 (by simp [erow]), h3 1 (by simp [erow])⟩
theorem Rl.len {H : Heap} {x : Value} {l : List Ent} (h : Rl H x l) : ∃ a c, x = .slice a l.length c := by
  obtain ⟨a, c, e⟩ := Rws.len h
  exact ⟨a, c, by simpa using e⟩
theorem Rl.on {H H1 : Heap} (hw : H.WF) {x : Value} {l : List Ent} (h : Rl H x l) (o : On H H1) : Rl H1 x l := Rws.keep hw o.base o.keep h
theorem Own.rl {H : Heap} {l : List Ent} {x : Value} (h : Own H 62 2 l.length (ec l) x) : Rl H x l := by
  have h' : Own H 62 2 (l.map erow).length (l.map erow).flatten x := by simpa [ec] using h
  exact h'.rws (erow_len l)
theorem rws_src {H : Heap} {sz : Nat} {x : Value} {l : List (List Value)} (hs : ∀ r ∈ l, r.length = sz) (h : Rws H sz x l) : srcCells H sz x = some (l.length, l.flatten) := by
  rcases h with ⟨rfl, rfl⟩ | ⟨b, off, c, rfl, hh⟩
  · rfl
  · rw [srcCells_slice]
    have hfl := flatten_len hs
    by_cases hsz : sz = 0
    · subst hsz
      have : l.flatten = [] := List.length_eq_zero_iff.1 (by rw [hfl]; omega)
      rw [this]
      simp [Heap.loadN]
    · have := loadN_cells (H := H) (b := b) (off := off) (l := l.flatten) (i := 0) (fun j hj => by
        rw [hfl] at hj
        have hq : j / sz < l.length := by
          rw [Nat.div_lt_iff_lt_mul (by omega)]; exact hj
        have hm' : j % sz < sz := Nat.mod_lt _ (by omega)
        obtain ⟨h1, h2⟩ := hh (j / sz) hq
        have h3 := h2 (j % sz) (by rw [h1]; exact hm')
        have h4 := flatten_get hs hq (j := j % sz) (by rw [h1]; exact hm')
        have hjj : j / sz * sz + j % sz = j := by rw [Nat.mul_comm]; exact Nat.div_add_mod j sz
        rw [hjj] at h4
        have hjl : j < l.flatten.length := by rw [hfl]; exact hj
        rw [List.getElem?_eq_getElem hjl] at h4
        have : off + 0 + j = off + j / sz * sz + j % sz := by omega
        rw [this, h3]
        exact h4.symm)
      rw [hfl] at this
      rw [this]
      rfl
theorem Rl.src {H : Heap} {x : Value} {l : List Ent} (h : Rl H x l) : srcCells H 2 x = some (l.length, ec l) := by
  have := rws_src (erow_len l) h
  simpa [ec] using this
theorem Rl.part {H : Heap} {x : Value} {l : List Ent} (h : Rl H x l) {i j : Nat} (hij : i ≤ j) (hj : j ≤ l.length) : ∃ y, sSlice 2 x (some (iv i)) (some (iv j)) none = some y ∧ Rl H y ((l.drop i).take (j - i)) := by
  rcases h with ⟨rfl, h0⟩ | ⟨b, off, c, rfl, hh⟩
  · have : l = [] := by simpa using h0
    subst this
    have hj0 : j = 0 := by simpa using hj
    have hi0 : i = 0 := by omega
    subst hj0 hi0
    exact ⟨.slice none 0 0, by simp [sSlice, bnd], .inl ⟨rfl, by simp⟩⟩
  · have hlen : ((l.drop i).take (j - i)).length = j - i := by rw [List.length_take, List.length_drop]; omega
    obtain ⟨c', hc'⟩ : ∃ c', sSlice 2 (.slice (some ⟨b, off, none⟩) (l.map erow).length c) (some (iv i)) (some (iv j)) none = some (.slice (some ⟨b, off + i * 2, none⟩) (j - i) c') := by
      simp only [sSlice, bnd, List.length_map]
      simp [hij, hj]
      rw [add_own]
    refine ⟨_, hc', .inr ⟨b, off + i * 2, c', by rw [List.length_map, hlen], fun k hk => ?_⟩⟩
    rw [List.length_map, hlen] at hk
    have h1 : i + k < (l.map erow).length := by rw [List.length_map]; omega
    obtain ⟨h2, h3⟩ := hh (i + k) h1
    simp only [List.getElem_map, List.getElem_take, List.getElem_drop] at h2 h3 ⊢
    refine ⟨h2, fun q hq => ?_⟩
    have := h3 q hq
    rw [show off + (i + k) * 2 + q = off + i * 2 + k * 2 + q by rw [Nat.add_mul]; omega] at this
    exact this
theorem stepG (w : World) {xs ys : Array Value} {f : Field} {fs : List Field} {n m : Int} (hn : f.name ≠ "_") (hk : Tryz.prog.plainKey f.type = true) (hu : Tryz.prog.underlying f.type = some (.int .i64)) (hx : xs[f.offset]? = some (iv n)) (hy : ys[f.offset]? = some (iv m)) :
    (Op.eqFields 9999 xs ys (f :: fs)).run Tryz.prog w = if n = m then (Op.eqFields 9999 xs ys fs).run Tryz.prog w else .ok false w := by
  simp only [Op.eqFields]
  rw [if_pos hn]
  simp only [Sem.run_bind, run_part_plain w hk hx, run_part_plain w hk hy, Result.andThen_ok, run_equalIn_int w 9998 f.type .i64 .i64 _ _ hu]
  by_cases h : n = m
  · simp [h]
  · simp [h]
theorem stepB (w : World) {xs ys : Array Value} {f : Field} {fs : List Field} {n m : Bool} (hn : f.name ≠ "_") (hk : Tryz.prog.plainKey f.type = true) (hu : Tryz.prog.underlying f.type = some .bool) (hx : xs[f.offset]? = some (.bool n)) (hy : ys[f.offset]? = some (.bool m)) :
    (Op.eqFields 9999 xs ys (f :: fs)).run Tryz.prog w = if n = m then (Op.eqFields 9999 xs ys fs).run Tryz.prog w else .ok false w := by
  simp only [Op.eqFields]
  rw [if_pos hn]
  simp only [Sem.run_bind, run_part_plain w hk hx, run_part_plain w hk hy, Result.andThen_ok, run_equalIn_bool' w 9998 f.type _ _ hu]
  by_cases h : n = m
  · simp [h]
  · simp [h]
set_option maxRecDepth 100000 in
theorem eqN (e f : Ent) (w : World) : (Op.equal 62 (.agg (erow e).toArray) (.agg (erow f).toArray)).run Tryz.prog w = .ok (decide (e = f)) w := by
  have hd : Op.equal 62 (.agg (erow e).toArray) (.agg (erow f).toArray) = Op.equalIn (9999 + 1) 62 (.agg (erow e).toArray) (.agg (erow f).toArray) := rfl
  have hf : ∃ f1 f2 : Field, Tryz.prog.fieldsOf 62 = #[f1, f2] ∧ f1.name ≠ "_" ∧ f2.name ≠ "_" ∧ f1.offset = 0 ∧ f2.offset = 1 ∧ Tryz.prog.underlying f1.type = some (.int .i64) ∧ Tryz.prog.underlying f2.type = some .bool ∧ Tryz.prog.plainKey f1.type = true ∧ Tryz.prog.plainKey f2.type = true ∧ Tryz.prog.underlying 62 = some (.struct #[f1, f2]) := by
    unfold Program.fieldsOf
    rw [Tryz.underlying62]
    exact ⟨_, _, rfl, by decide, by decide, rfl, rfl, Tryz.underlying3, Tryz.underlying4, by kernel_rfl, by kernel_rfl, rfl⟩
  obtain ⟨f1, f2, hf, n1, n2, o1, o2, u1, u2, k1, k2, hu⟩ := hf
  rw [hd, run_equalIn_struct w 9999 62 _ _ (by rw [hf]; exact hu) (by kernel_rfl), hf]
  show (Op.eqFields 9999 (erow e).toArray (erow f).toArray [f1, f2]).run Tryz.prog w = _
  rw [stepG (n := e.1) (m := f.1) w n1 k1 u1 (by rw [o1]; rfl) (by rw [o1]; rfl), stepB (n := e.2) (m := f.2) w n2 k2 u2 (by rw [o2]; rfl) (by rw [o2]; rfl)]
  obtain ⟨a, b⟩ := e
  obtain ⟨c, d⟩ := f
  by_cases h1 : a = c <;> by_cases h2 : b = d <;> simp [h1, h2, Op.eqFields] <;> rfl
def InvSm (H : Heap) (x y : Value) (l m : List Ent) (k : Nat) (t : Tm) (H1 : Heap) : Prop :=
  ∃ i, i + k = l.length ∧ t 0 = x ∧ t 1 = y ∧ t 5 = iv i ∧ H1 = H ∧ l.take i = m.take i
theorem same_T {H : Heap} {x y : Value} {l m : List Ent} (hx : Rl H x l) (hy : Rl H y m) (hl : l.length ≤ 100000) : T Tryz.prog 59 [x, y] H (.bool (decide (l = m))) H := by
  obtain ⟨bb, hbb⟩ : ∃ bb, bb = decide (l = m) := ⟨_, rfl⟩
  rw [← hbb]
  refine T_eq hm light59 ?_
  obtain ⟨a1, c1, h1⟩ := hx.len
  obtain ⟨a2, c2, h2⟩ := hy.len
  by_cases hlm : l.length = m.length
  · have e0 : ((l.length : Int) != (m.length : Int)) = false := by simp [hlm]
    rw [h1, h2]
    simp [L59, e0]
    rw [← h1, ← h2]
    refine loop_at (InvSm H x y l m) l.length ?_ ?_
    · exact ⟨0, by omega, by simp, by simp, by simp, rfl, by simp⟩
    · rintro k t H1 ⟨i, hik, t0, t1, t5, rfl, htk⟩
      cases k with
      | zero =>
        have e1 : ¬ ((i : Int) < l.length) := by omega
        have : l = m := by
          rw [List.take_of_length_le (by omega), List.take_of_length_le (by omega)] at htk
          exact htk
        have hb : bb = true := by rw [hbb]; simp [this]
        rw [h1] at t0
        simp [L59_1, t5, t0, e1, hb]
      | succ k =>
        have hil : i < l.length := by omega
        have him : i < m.length := by omega
        have e1 : ((i : Int) < l.length) := by omega
        have e4 : IntKind.i64.wrap ((i : Int) + 1) = ((i + 1 : Nat) : Int) := by rw [w64 _ (by omega)]; omega
        obtain ⟨iN, hiN⟩ : ∃ n : Nat, n = i + 1 := ⟨_, rfl⟩
        rw [← hiN] at e4
        obtain ⟨b, off, c, hxb, ldx, _, _⟩ := hx.get hil
        obtain ⟨b', off', c', hyb, ldy, _, _⟩ := hy.get him
        have t0' := t0
        have t1' := t1
        rw [hxb] at t0
        rw [hyb] at t1
        simp [L59_1, t5, t0, t1, e1, hil, him, ldx, ldy, e4]
        refine goE_of (by rfl) (by rfl) (eqN l[i] m[i]) ?_
        by_cases he : l[i] = m[i]
        · simp [he, t5, e4]
          refine ⟨k, by omega, iN, by omega, by simp [t0'], by simp [t1'], by simp, rfl, ?_⟩
          rw [hiN, List.take_add_one, List.take_add_one, htk]
          simp [hil, him, he]
        · have hb : bb = false := by
            rw [hbb]; simp
            intro h; subst h; exact he rfl
          simp [he, hb]
  · have e0 : ((l.length : Int) != (m.length : Int)) = true := by simp; omega
    have hb : bb = false := by
      rw [hbb]; simp
      intro h; rw [h] at hlm; exact hlm rfl
    rw [h1, h2]
    simp [L59, e0, hb]
end Go.Proofs.YtnomffikflfilaaGreat
namespace Go.Proofs.YtnomffikflfilaaGreat
open Go.Ot Go.RowKit
set_option linter.unusedSimpArgs false
set_option linter.unusedVariables false
structure RS where
  r : Nat
  a : Nat
  s : Nat → Bool
def full (w : Int) (s : Nat → Bool) : Bool := (List.range w.toNat).all s
end Go.Proofs.YtnomffikflfilaaGreat
namespace Go.Proofs.YtnomffikflfilaaGreat
open Go.Ot Go.RowKit
set_option linter.unusedSimpArgs false
set_option linter.unusedVariables false
end Go.Proofs.YtnomffikflfilaaGreat
namespace Go.Proofs.YtnomffikflfilaaGreat
open Go.Ot Go.RowKit
open R14 (Twos)
set_option linter.unusedSimpArgs false
set_option linter.unusedVariables false
structure Cfg where
  workers : Int
  window : Int
  policy : Int
  chunk : Int
  reads : Int
  writes : Int
  outs : Int
  arena : Int
  edges : Int
  retry : Int
  force : Bool
abbrev cfgC (C : Cfg) : List Value := [iv C.workers, iv C.window, iv C.policy, iv C.chunk, iv C.reads, iv C.writes, iv C.outs, iv C.arena, iv C.edges, iv C.retry, .bool C.force]
def outV (n lo hi : Int) : Bool := decide (n < lo) || decide (hi < n)
def manyV (C : Cfg) : Bool := outV C.window 1 32 || outV C.reads 1 64 || outV C.writes 1 64 || outV C.outs 1 64 || outV C.arena 1 512 || outV C.edges 1 512
def rightE (C : Cfg) : Int := if outV C.workers 1 8 = true then 162 else if outV C.policy 1 3 = true then 160 else if outV C.chunk 1 200 = true then 161 else if manyV C = true ∨ outV C.retry 0 9 = true then 172 else 0
def prs (C : Cfg) : List (Int × Int) := [(C.window, 32), (C.reads, 64), (C.writes, 64), (C.outs, 64), (C.arena, 512), (C.edges, 512)]
theorem prs_many (C : Cfg) : manyV C = (prs C).any fun q => outV q.1 1 q.2 := by
  simp [manyV, prs, Bool.or_assoc]
def InvRg (G : Heap) (C : Cfg) (p : Nat) (y : Value) (k : Nat) (t : Tm) (H1 : Heap) : Prop :=
  ∃ i : Nat, i + k = 6 ∧ t 1 = ptr p ∧ t 47 = y ∧ t 48 = iv (6 : Nat) ∧ t 49 = iv i ∧ On G H1 ∧ ((prs C).take i).any (fun q => outV q.1 1 q.2) = false
theorem right_T {H : Heap} (hw : H.WF) (C : Cfg) : T Tryz.prog 44 [.agg (cfgC C).toArray] H (iv (rightE C)) H := by
  obtain ⟨E, hE⟩ : ∃ E, E = rightE C := ⟨_, rfl⟩
  rw [← hE]
  refine T_seen hm light44 rfl ?_
  have vr : Vr (H.new 32 11 (cfgC C)) H.next 32 11 (cfgC C) := Vr.mk' hw _ _ _
  have on : On H (H.new 32 11 (cfgC C)) := (On.refl hw).new _ _ _
  obtain ⟨G, hG⟩ : ∃ G, G = H.new 32 11 (cfgC C) := ⟨_, rfl⟩
  have nG : G.next = H.next + 1 := by rw [hG]; simp
  rw [← hG] at vr on
  have l0 : G.load ⟨H.next, 0, none⟩ = some (iv C.workers) := vr.load 0
  have l1 : G.load ⟨H.next, 1, none⟩ = some (iv C.window) := vr.load 1
  have l2 : G.load ⟨H.next, 2, none⟩ = some (iv C.policy) := vr.load 2
  have l3 : G.load ⟨H.next, 3, none⟩ = some (iv C.chunk) := vr.load 3
  have l4 : G.load ⟨H.next, 4, none⟩ = some (iv C.reads) := vr.load 4
  have l5 : G.load ⟨H.next, 5, none⟩ = some (iv C.writes) := vr.load 5
  have l6 : G.load ⟨H.next, 6, none⟩ = some (iv C.outs) := vr.load 6
  have l7 : G.load ⟨H.next, 7, none⟩ = some (iv C.arena) := vr.load 7
  have l8 : G.load ⟨H.next, 8, none⟩ = some (iv C.edges) := vr.load 8
  unfold rightE at hE
  by_cases a1 : C.workers < 1
  · rw [if_pos (by simp [outV, a1])] at hE
    simp [L44, ← hG, l0, a1, hE]
    exact on.keep
  by_cases a2 : 8 < C.workers
  · rw [if_pos (by simp [outV, a2])] at hE
    simp [L44, ← hG, l0, a1, a2, hE]
    exact on.keep
  rw [if_neg (by simp [outV, a1, a2])] at hE
  by_cases b1 : C.policy < 1
  · rw [if_pos (by simp [outV, b1])] at hE
    simp [L44, ← hG, l0, a1, a2, l2, b1, hE]
    exact on.keep
  by_cases b2 : 3 < C.policy
  · rw [if_pos (by simp [outV, b2])] at hE
    simp [L44, ← hG, l0, a1, a2, l2, b1, b2, hE]
    exact on.keep
  rw [if_neg (by simp [outV, b1, b2])] at hE
  by_cases c1 : C.chunk < 1
  · rw [if_pos (by simp [outV, c1])] at hE
    simp [L44, ← hG, l0, a1, a2, l2, b1, b2, l3, c1, hE]
    exact on.keep
  by_cases c2 : 200 < C.chunk
  · rw [if_pos (by simp [outV, c2])] at hE
    simp [L44, ← hG, l0, a1, a2, l2, b1, b2, l3, c1, c2, hE]
    exact on.keep
  rw [if_neg (by simp [outV, c1, c2])] at hE
  have hz : zerosA [iv 0, iv 0] 12 = [iv 0, iv 0, iv 0, iv 0, iv 0, iv 0, iv 0, iv 0, iv 0, iv 0, iv 0, iv 0] := rfl
  obtain ⟨rowc, hrow⟩ : ∃ r, r = [iv C.window, iv 32, iv C.reads, iv 64, iv C.writes, iv 64, iv C.outs, iv 64, iv C.arena, iv 512, iv C.edges, iv 512] := ⟨_, rfl⟩
  obtain ⟨HB, hHB⟩ : ∃ HB, HB = G.new 171 2 rowc := ⟨_, rfl⟩
  have VB : Vr HB G.next 171 2 rowc := by rw [hHB]; exact Vr.mk' on.wf _ _ _
  have onB : On G HB := by rw [hHB]; exact (On.refl on.wf).new _ _ _
  obtain ⟨y, hy⟩ : ∃ y : Value, y = .slice (some ⟨G.next, 0, none⟩) 6 0 := ⟨_, rfl⟩
  have tw : Twos HB y (prs C) := by
    refine .inr ⟨G.next, 0, 0, hy, fun i hi => ?_⟩
    have hi6 : i < 6 := hi
    rw [VB.load, VB.load, hrow]
    match i, hi6 with
    | 0, _ => exact ⟨rfl, rfl⟩
    | 1, _ => exact ⟨rfl, rfl⟩
    | 2, _ => exact ⟨rfl, rfl⟩
    | 3, _ => exact ⟨rfl, rfl⟩
    | 4, _ => exact ⟨rfl, rfl⟩
    | 5, _ => exact ⟨rfl, rfl⟩
  rw [hrow] at hHB
  simp [L44, ← hG, l0, a1, a2, l2, b1, b2, l3, c1, c2, l1, l4, l5, l6, l7, l8, hz, ← hHB]
  refine loop_at (InvRg HB C H.next y) 6 ?_ ?_
  · exact ⟨0, by omega, by simp, by simp [hy, nG], by simp, by simp, On.refl onB.wf, by simp⟩
  · rintro k t H1 ⟨i, hik, t1, t47, t48, t49, on1, hno⟩
    have onH := (on.trans onB).trans on1
    cases k with
    | zero =>
      have ei : i = 6 := by omega
      subst ei
      have hm0 : manyV C = false := by rw [prs_many]; exact hno
      have l9 : H1.load ⟨H.next, 9, none⟩ = some (iv C.retry) := (vr.on on.wf (onB.trans on1)).load 9
      by_cases d1 : C.retry < 0
      · rw [if_pos (.inr (by simp [outV, d1]))] at hE
        simp [L44_1, t49, t48, t1, l9, d1, hE]
        exact onH.keep
      · by_cases d2 : 9 < C.retry
        · rw [if_pos (.inr (by simp [outV, d2]))] at hE
          simp [L44_1, t49, t48, t1, l9, d1, d2, hE]
          exact onH.keep
        · rw [if_neg (by simp [outV, d1, d2, hm0])] at hE
          simp [L44_1, t49, t48, t1, l9, d1, d2, hE]
          exact onH.keep
    | succ k =>
      have hi6 : i < 6 := by omega
      have hil : i < (prs C).length := hi6
      have e1 : (i : Int) < 6 := by omega
      have e4 : IntKind.i64.wrap ((i : Int) + 1) = ((i + 1 : Nat) : Int) := by rw [w64 _ (by omega)]; omega
      obtain ⟨iN, hiN⟩ : ∃ n : Nat, n = i + 1 := ⟨_, rfl⟩
      rw [← hiN] at e4
      obtain ⟨b, off, c, hxb, ldx, _⟩ := twos_rws (tw.keep onB.wf on1.base on1.keep) hil
      have hxb : y = .slice (some ⟨b, off, none⟩) 6 c := hxb
      have htk : (prs C).take iN = (prs C).take i ++ [(prs C)[i]] := by rw [hiN, List.take_succ_eq_append_getElem hil]
      have hany : ((prs C).take iN).any (fun q => outV q.1 1 q.2) = outV (prs C)[i].1 1 (prs C)[i].2 := by rw [htk, List.any_append, hno]; simp
      have hbad : outV (prs C)[i].1 1 (prs C)[i].2 = true → E = 172 := by
        intro h
        have hmv : manyV C = true := by
          rw [prs_many, List.any_eq_true]
          exact ⟨(prs C)[i], List.getElem_mem _, h⟩
        rw [hE, if_pos (.inl hmv)]
      obtain ⟨e, he⟩ : ∃ e, e = (prs C)[i] := ⟨_, rfl⟩
      rw [← he] at ldx hany hbad
      have t47' := t47
      rw [hxb] at t47
      have st := new_storeA on1.wf 171 2 [iv 0, iv 0] [iv e.1, iv e.2] rfl rfl (by decide)
      have VE : Vr (H1.new 171 2 [iv e.1, iv e.2]) H1.next 171 2 [iv e.1, iv e.2] := Vr.mk' on1.wf _ _ _
      have on2 : On HB (H1.new 171 2 [iv e.1, iv e.2]) := on1.new _ _ _
      obtain ⟨H2, hH2⟩ : ∃ H2, H2 = H1.new 171 2 [iv e.1, iv e.2] := ⟨_, rfl⟩
      rw [← hH2] at st VE on2
      obtain ⟨p, hp⟩ : ∃ p, p = H1.next := ⟨_, rfl⟩
      rw [← hp] at st VE
      have f0 : H2.load ⟨p, 0, none⟩ = some (iv e.1) := VE.load 0
      have f1 : H2.load ⟨p, 1, none⟩ = some (iv e.2) := VE.load 1
      have ix0 : sIdxArr 2 1 (ptr p) (iv 0) = some (.pointer (some ⟨p, 0, none⟩)) := by simp [sIdxArr, add_own]
      have ix1 : sIdxArr 2 1 (ptr p) (iv 1) = some (.pointer (some ⟨p, 1, none⟩)) := by simp [sIdxArr, add_own]
      have onH2 := (on.trans onB).trans on2
      by_cases d1 : e.1 < 1
      · have := hbad (by simp [outV, d1])
        simp [L44_1, t49, t48, e1, hi6, t47, ldx, st, ← hp, ix0, f0, d1, this]
        exact onH2.keep
      · by_cases d2 : e.2 < e.1
        · have := hbad (by simp [outV, d2])
          simp [L44_1, t49, t48, e1, hi6, t47, ldx, st, ← hp, ix0, f0, d1, ix1, f1, d2, this]
          exact onH2.keep
        · simp [L44_1, t49, t48, e1, hi6, t47, ldx, st, ← hp, ix0, f0, d1, ix1, f1, d2, e4]
          exact ⟨k, by omega, iN, by omega, by simp [t1], by simp [t47', hxb], by simp [t48], by simp, on2, by rw [hany]; simp [outV, d1, d2]⟩
end Go.Proofs.YtnomffikflfilaaGreat
