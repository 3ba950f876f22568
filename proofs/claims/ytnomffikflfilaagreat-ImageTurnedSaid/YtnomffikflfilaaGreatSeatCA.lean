/-
  Chapter 26: rows of entries that may be read; two entries alike; the document's Same. Chapter 26: rounds, in plain: how many a row of entries has. Chapter 26: the program's Rounds. Chapter 26: which configs may be, by both.
-/
import Derived.Test.YtnomffikflfilaaGreatSeatBE
namespace Go.Proofs.YtnomffikflfilaaGreat
open Go.Ot Go.RowKit
set_option linter.unusedSimpArgs false
set_option linter.unusedVariables false
abbrev Ent := Int × Bool
def erow (e : Ent) : List Value := [iv e.1, .bool e.2]
def ec (l : List Ent) : List Value := (l.map erow).flatten
theorem ec_append (a b : List Ent) : ec (a ++ b) = ec a ++ ec b := by simp [ec]
theorem ec_len (l : List Ent) : (ec l).length = l.length * 2 := by
  induction l with
  | nil => rfl
  | cons a l ih => simp [ec, erow] at ih ⊢; omega
inductive Res where
  | ok (l : List Ent) (a : Nat)
  | err (e : Int) (a : Nat)
abbrev Rl (H : Heap) (x : Value) (l : List Ent) : Prop := Rws H 2 x (l.map erow)
theorem erow_len (l : List Ent) : ∀ r ∈ l.map erow, r.length = 2 := by
  intro r hr; obtain ⟨q, _, rfl⟩ := List.mem_map.1 hr; rfl
theorem Rl.get {H : Heap} {x : Value} {l : List Ent} (h : Rl H x l) {i : Nat} (hi : i < l.length) :
    ∃ b off c, x = .slice (some ⟨b, off, none⟩) l.length c ∧ H.loadN ⟨b, off + i * 2, none⟩ 0 2 = some (erow l[i]) ∧ H.load ⟨b, off + i * 2, none⟩ = some (iv l[i].1) ∧ H.load ⟨b, off + i * 2 + 1, none⟩ = some (.bool l[i].2) := by
  obtain ⟨b, off, c, hx, h1, h2, h3⟩ := Rws.at h (i := i) (by simpa using hi)
  simp only [List.getElem_map] at h2 h3
  refine ⟨b, off, c, by simpa using hx, h2, h3 0 (by simp [erow]), h3 1 (by simp [erow])⟩
theorem Rl.len {H : Heap} {x : Value} {l : List Ent} (h : Rl H x l) : ∃ a c, x = .slice a l.length c := by
  obtain ⟨a, c, e⟩ := Rws.len h
  exact ⟨a, c, by simpa using e⟩
theorem Rl.on {H H1 : Heap} (hw : H.WF) {x : Value} {l : List Ent} (h : Rl H x l) (o : On H H1) : Rl H1 x l := Rws.keep hw o.base o.keep h
theorem Own.rl {H : Heap} {l : List Ent} {x : Value} (h : Own H 62 2 l.length (ec l) x) : Rl H x l := by
  have h' : Own H 62 2 (l.map erow).length (l.map erow).flatten x := by simpa [ec] using h
  exact h'.rws (erow_len l)
theorem rws_src {H : Heap} {sz : Nat} {x : Value} {l : List (List Value)} (hs : ∀ r ∈ l, r.length = sz) (h : Rws H sz x l) : srcCells H sz x = some (l.length, l.flatten) := by
  rcases h with ⟨rfl, rfl⟩ | ⟨b, off, c, rfl, hh⟩
  · rfl
  · rw [srcCells_slice]
    have hfl := flatten_len hs
    by_cases hsz : sz = 0
    · subst hsz
      have : l.flatten = [] := List.length_eq_zero_iff.1 (by rw [hfl]; omega)
      rw [this]
      simp [Heap.loadN]
    · have := loadN_cells (H := H) (b := b) (off := off) (l := l.flatten) (i := 0) (fun j hj => by
        rw [hfl] at hj
        have hq : j / sz < l.length := by
          rw [Nat.div_lt_iff_lt_mul (by omega)]; exact hj
        have hm' : j % sz < sz := Nat.mod_lt _ (by omega)
        obtain ⟨h1, h2⟩ := hh (j / sz) hq
        have h3 := h2 (j % sz) (by rw [h1]; exact hm')
        have h4 := flatten_get hs hq (j := j % sz) (by rw [h1]; exact hm')
        have hjj : j / sz * sz + j % sz = j := by rw [Nat.mul_comm]; exact Nat.div_add_mod j sz
        rw [hjj] at h4
        have hjl : j < l.flatten.length := by rw [hfl]; exact hj
        rw [List.getElem?_eq_getElem hjl] at h4
        have : off + 0 + j = off + j / sz * sz + j % sz := by omega
        rw [this, h3]
        exact h4.symm)
      rw [hfl] at this
      rw [this]
      rfl
theorem Rl.src {H : Heap} {x : Value} {l : List Ent} (h : Rl H x l) : srcCells H 2 x = some (l.length, ec l) := by
  have := rws_src (erow_len l) h
  simpa [ec] using this
/-- A part of a row. -/
theorem Rl.part {H : Heap} {x : Value} {l : List Ent} (h : Rl H x l) {i j : Nat} (hij : i ≤ j) (hj : j ≤ l.length) : ∃ y, sSlice 2 x (some (iv i)) (some (iv j)) none = some y ∧ Rl H y ((l.drop i).take (j - i)) := by
  rcases h with ⟨rfl, h0⟩ | ⟨b, off, c, rfl, hh⟩
  · have : l = [] := by simpa using h0
    subst this
    have hj0 : j = 0 := by simpa using hj
    have hi0 : i = 0 := by omega
    subst hj0 hi0
    exact ⟨.slice none 0 0, by simp [sSlice, bnd], .inl ⟨rfl, by simp⟩⟩
  · have hlen : ((l.drop i).take (j - i)).length = j - i := by rw [List.length_take, List.length_drop]; omega
    obtain ⟨c', hc'⟩ : ∃ c', sSlice 2 (.slice (some ⟨b, off, none⟩) (l.map erow).length c) (some (iv i)) (some (iv j)) none = some (.slice (some ⟨b, off + i * 2, none⟩) (j - i) c') := by
      simp only [sSlice, bnd, List.length_map]
      simp [hij, hj]
      rw [add_own]
    refine ⟨_, hc', .inr ⟨b, off + i * 2, c', by rw [List.length_map, hlen], fun k hk => ?_⟩⟩
    rw [List.length_map, hlen] at hk
    have h1 : i + k < (l.map erow).length := by rw [List.length_map]; omega
    obtain ⟨h2, h3⟩ := hh (i + k) h1
    simp only [List.getElem_map, List.getElem_take, List.getElem_drop] at h2 h3 ⊢
    refine ⟨h2, fun q hq => ?_⟩
    have := h3 q hq
    rw [show off + (i + k) * 2 + q = off + i * 2 + k * 2 + q by rw [Nat.add_mul]; omega] at this
    exact this
/-! ### two entries -/
theorem stepG (w : World) {xs ys : Array Value} {f : Field} {fs : List Field} {n m : Int} (hn : f.name ≠ "_") (hk : Tryz.prog.plainKey f.type = true) (hu : Tryz.prog.underlying f.type = some (.int .i64)) (hx : xs[f.offset]? = some (iv n)) (hy : ys[f.offset]? = some (iv m)) :
    (Op.eqFields 9999 xs ys (f :: fs)).run Tryz.prog w = if n = m then (Op.eqFields 9999 xs ys fs).run Tryz.prog w else .ok false w := by
  simp only [Op.eqFields]
  rw [if_pos hn]
  simp only [Sem.run_bind, run_part_plain w hk hx, run_part_plain w hk hy, Result.andThen_ok, run_equalIn_int w 9998 f.type .i64 .i64 _ _ hu]
  by_cases h : n = m
  · simp [h]
  · simp [h]
theorem stepB (w : World) {xs ys : Array Value} {f : Field} {fs : List Field} {n m : Bool} (hn : f.name ≠ "_") (hk : Tryz.prog.plainKey f.type = true) (hu : Tryz.prog.underlying f.type = some .bool) (hx : xs[f.offset]? = some (.bool n)) (hy : ys[f.offset]? = some (.bool m)) :
    (Op.eqFields 9999 xs ys (f :: fs)).run Tryz.prog w = if n = m then (Op.eqFields 9999 xs ys fs).run Tryz.prog w else .ok false w := by
  simp only [Op.eqFields]
  rw [if_pos hn]
  simp only [Sem.run_bind, run_part_plain w hk hx, run_part_plain w hk hy, Result.andThen_ok, run_equalIn_bool' w 9998 f.type _ _ hu]
  by_cases h : n = m
  · simp [h]
  · simp [h]
set_option maxRecDepth 100000 in
theorem eqN (e f : Ent) (w : World) : (Op.equal 62 (.agg (erow e).toArray) (.agg (erow f).toArray)).run Tryz.prog w = .ok (decide (e = f)) w := by
  have hd : Op.equal 62 (.agg (erow e).toArray) (.agg (erow f).toArray) = Op.equalIn (9999 + 1) 62 (.agg (erow e).toArray) (.agg (erow f).toArray) := rfl
  have hf : ∃ f1 f2 : Field, Tryz.prog.fieldsOf 62 = #[f1, f2] ∧ f1.name ≠ "_" ∧ f2.name ≠ "_" ∧ f1.offset = 0 ∧ f2.offset = 1 ∧ Tryz.prog.underlying f1.type = some (.int .i64) ∧ Tryz.prog.underlying f2.type = some .bool ∧ Tryz.prog.plainKey f1.type = true ∧ Tryz.prog.plainKey f2.type = true ∧ Tryz.prog.underlying 62 = some (.struct #[f1, f2]) := by
    unfold Program.fieldsOf
    rw [Tryz.underlying62]
    exact ⟨_, _, rfl, by decide, by decide, rfl, rfl, Tryz.underlying3, Tryz.underlying4, by kernel_rfl, by kernel_rfl, rfl⟩
  obtain ⟨f1, f2, hf, n1, n2, o1, o2, u1, u2, k1, k2, hu⟩ := hf
  rw [hd, run_equalIn_struct w 9999 62 _ _ (by rw [hf]; exact hu) (by kernel_rfl), hf]
  show (Op.eqFields 9999 (erow e).toArray (erow f).toArray [f1, f2]).run Tryz.prog w = _
  rw [stepG (n := e.1) (m := f.1) w n1 k1 u1 (by rw [o1]; rfl) (by rw [o1]; rfl), stepB (n := e.2) (m := f.2) w n2 k2 u2 (by rw [o2]; rfl) (by rw [o2]; rfl)]
  obtain ⟨a, b⟩ := e
  obtain ⟨c, d⟩ := f
  by_cases h1 : a = c <;> by_cases h2 : b = d <;> simp [h1, h2, Op.eqFields] <;> rfl
def InvSm (H : Heap) (x y : Value) (l m : List Ent) (k : Nat) (t : Tm) (H1 : Heap) : Prop :=
  ∃ i, i + k = l.length ∧ t 0 = x ∧ t 1 = y ∧ t 5 = iv i ∧ H1 = H ∧ l.take i = m.take i
theorem same_T {H : Heap} {x y : Value} {l m : List Ent} (hx : Rl H x l) (hy : Rl H y m) (hl : l.length ≤ 100000) : T Tryz.prog 59 [x, y] H (.bool (decide (l = m))) H := by
  obtain ⟨bb, hbb⟩ : ∃ bb, bb = decide (l = m) := ⟨_, rfl⟩
  rw [← hbb]
  refine T_eq hm light59 ?_
  obtain ⟨a1, c1, h1⟩ := hx.len
  obtain ⟨a2, c2, h2⟩ := hy.len
  by_cases hlm : l.length = m.length
  · have e0 : ((l.length : Int) != (m.length : Int)) = false := by simp [hlm]
    rw [h1, h2]
    simp [L59, e0]
    rw [← h1, ← h2]
    refine loop_at (InvSm H x y l m) l.length ?_ ?_
    · exact ⟨0, by omega, by simp, by simp, by simp, rfl, by simp⟩
    · rintro k t H1 ⟨i, hik, t0, t1, t5, rfl, htk⟩
      cases k with
      | zero =>
        have e1 : ¬ ((i : Int) < l.length) := by omega
        have : l = m := by
          rw [List.take_of_length_le (by omega), List.take_of_length_le (by omega)] at htk
          exact htk
        have hb : bb = true := by rw [hbb]; simp [this]
        rw [h1] at t0
        simp [L59_1, t5, t0, e1, hb]
      | succ k =>
        have hil : i < l.length := by omega
        have him : i < m.length := by omega
        have e1 : ((i : Int) < l.length) := by omega
        have e4 : IntKind.i64.wrap ((i : Int) + 1) = ((i + 1 : Nat) : Int) := by rw [w64 _ (by omega)]; omega
        obtain ⟨iN, hiN⟩ : ∃ n : Nat, n = i + 1 := ⟨_, rfl⟩
        rw [← hiN] at e4
        obtain ⟨b, off, c, hxb, ldx, _, _⟩ := hx.get hil
        obtain ⟨b', off', c', hyb, ldy, _, _⟩ := hy.get him
        have t0' := t0
        have t1' := t1
        rw [hxb] at t0
        rw [hyb] at t1
        simp [L59_1, t5, t0, t1, e1, hil, him, ldx, ldy, e4]
        refine goE_of (by rfl) (by rfl) (eqN l[i] m[i]) ?_
        by_cases he : l[i] = m[i]
        · simp [he, t5, e4]
          refine ⟨k, by omega, iN, by omega, by simp [t0'], by simp [t1'], by simp, rfl, ?_⟩
          rw [hiN, List.take_add_one, List.take_add_one, htk]
          simp [hil, him, he]
        · have hb : bb = false := by
            rw [hbb]; simp
            intro h; subst h; exact he rfl
          simp [he, hb]
  · have e0 : ((l.length : Int) != (m.length : Int)) = true := by simp; omega
    have hb : bb = false := by
      rw [hbb]; simp
      intro h; rw [h] at hlm; exact hlm rfl
    rw [h1, h2]
    simp [L59, e0, hb]
end Go.Proofs.YtnomffikflfilaaGreat
namespace Go.Proofs.YtnomffikflfilaaGreat
open Go.Ot Go.RowKit
set_option linter.unusedSimpArgs false
set_option linter.unusedVariables false
def inW (w : Int) (e : Ent) : Bool := decide (1 ≤ w) && decide (w ≤ 8) && decide (0 ≤ e.1) && decide (e.1 < w)
structure RS where
  r : Nat
  a : Nat
  s : Nat → Bool
def full (w : Int) (s : Nat → Bool) : Bool := (List.range w.toNat).all s
def addS (s : Nat → Bool) (j : Nat) : Nat → Bool := fun i => s i || decide (i = j)
def stepR (w : Int) (S : RS) (e : Ent) : RS :=
  if e.2 then ⟨S.r, S.a + 1, S.s⟩ else if inW w e then (if full w (addS S.s e.1.toNat) then ⟨S.r + 1, S.a, fun _ => false⟩ else ⟨S.r, S.a, addS S.s e.1.toNat⟩) else S
def rs0 : RS := ⟨0, 0, fun _ => false⟩
def roundsP (w : Int) (l : List Ent) : RS := l.foldl (stepR w) rs0
def cnt (w : Int) (s : Nat → Bool) : Nat := (List.range w.toNat).countP s
theorem full_iff (w : Int) (s : Nat → Bool) : full w s = true ↔ ∀ j, j < w.toNat → s j = true := by
  simp [full]
theorem cnt_full (w : Int) (s : Nat → Bool) : cnt w s = w.toNat ↔ full w s = true := by
  unfold cnt full
  have := List.countP_eq_length (p := s) (l := List.range w.toNat)
  rw [List.length_range] at this
  rw [this, List.all_eq_true]
theorem cnt_le (w : Int) (s : Nat → Bool) : cnt w s ≤ w.toNat := by
  unfold cnt
  have := List.countP_le_length (p := s) (l := List.range w.toNat)
  rwa [List.length_range] at this
theorem countP_add (s : Nat → Bool) {j : Nat} (hj : s j = false) : ∀ n, (List.range n).countP (addS s j) = (List.range n).countP s + (if j < n then 1 else 0)
  | 0 => by simp
  | n + 1 => by
    rw [List.range_succ, List.countP_append, List.countP_append, countP_add s hj n]
    by_cases h1 : n = j
    · subst h1
      simp [addS, hj]
    · have e : addS s j n = s n := by simp [addS, h1]
      have c : (List.countP (addS s j) [n]) = (List.countP s [n]) := by simp [List.countP_cons, e]
      rw [c]
      by_cases h2 : j < n
      · rw [if_pos h2, if_pos (by omega)]; omega
      · rw [if_neg h2, if_neg (by omega)]; omega
theorem cnt_add (w : Int) (s : Nat → Bool) {j : Nat} (hj : s j = false) (h : j < w.toNat) : cnt w (addS s j) = cnt w s + 1 := by
  unfold cnt
  rw [countP_add s hj, if_pos h]
theorem addS_same (s : Nat → Bool) {j : Nat} (hj : s j = true) : addS s j = s := by
  funext i
  unfold addS
  by_cases h : i = j
  · subst h; simp [hj]
  · simp [h]
theorem inW_iff (w : Int) (e : Ent) : inW w e = true ↔ 1 ≤ w ∧ w ≤ 8 ∧ 0 ≤ e.1 ∧ e.1 < w := by simp [inW, and_assoc]
/-! ### not full -/
theorem step_not {w : Int} (hw : 1 ≤ w) {S : RS} (h : full w S.s = false) (e : Ent) : full w (stepR w S e).s = false := by
  unfold stepR
  split
  · exact h
  · split
    · split
      · rw [Bool.eq_false_iff]
        intro hf
        have := (full_iff w _).1 hf 0 (by omega)
        cases this
      · rename_i hf
        simpa using hf
    · exact h
theorem full_zero {w : Int} (hw : 1 ≤ w) : full w (fun _ => false) = false := by
  rw [Bool.eq_false_iff]
  intro hf
  have := (full_iff w _).1 hf 0 (by omega)
  cases this
/-! ### two runs beside one another -/
def Beside (w : Int) (A B : RS) (r0 a0 : Nat) : Prop :=
  A.a = B.a + a0 ∧ ((A.r = B.r + r0 ∧ ∀ j, B.s j = true → A.s j = true) ∨ (A.r = B.r + r0 + 1 ∧ ∀ j, A.s j = true → B.s j = true))
theorem beside_step {w : Int} {A B : RS} {r0 a0 : Nat} (h : Beside w A B r0 a0) (e : Ent) : Beside w (stepR w A e) (stepR w B e) r0 a0 := by
  obtain ⟨h1, h2⟩ := h
  unfold stepR
  by_cases he : e.2 = true
  · rw [if_pos he, if_pos he]
    exact ⟨by show A.a + 1 = B.a + 1 + a0; omega, h2⟩
  · rw [if_neg he, if_neg he]
    by_cases hi : inW w e = true
    · rw [if_pos hi, if_pos hi]
      obtain ⟨j, hj⟩ : ∃ j, j = e.1.toNat := ⟨_, rfl⟩
      rw [← hj]
      have mono : ∀ {s s' : Nat → Bool}, (∀ i, s i = true → s' i = true) → ∀ i, addS s j i = true → addS s' j i = true := by
        intro s s' hs i hi
        simp only [addS, Bool.or_eq_true] at hi ⊢
        rcases hi with hi | hi
        · exact .inl (hs i hi)
        · exact .inr hi
      have fmono : ∀ {s s' : Nat → Bool}, (∀ i, s i = true → s' i = true) → full w s = true → full w s' = true := by
        intro s s' hs hf
        rw [full_iff] at hf ⊢
        exact fun i hi => hs i (hf i hi)
      rcases h2 with ⟨h2, h3⟩ | ⟨h2, h3⟩
      · have m := mono h3
        by_cases fB : full w (addS B.s j) = true
        · have fA := fmono m fB
          rw [if_pos fB, if_pos fA]
          exact ⟨h1, .inl ⟨by show A.r + 1 = B.r + 1 + r0; omega, fun _ h => h⟩⟩
        · rw [if_neg fB]
          by_cases fA : full w (addS A.s j) = true
          · rw [if_pos fA]
            exact ⟨h1, .inr ⟨by show A.r + 1 = B.r + r0 + 1; omega, fun _ h => by cases h⟩⟩
          · rw [if_neg fA]
            exact ⟨h1, .inl ⟨h2, m⟩⟩
      · have m := mono h3
        by_cases fA : full w (addS A.s j) = true
        · have fB := fmono m fA
          rw [if_pos fB, if_pos fA]
          exact ⟨h1, .inr ⟨by show A.r + 1 = B.r + 1 + r0 + 1; omega, fun _ h => h⟩⟩
        · rw [if_neg fA]
          by_cases fB : full w (addS B.s j) = true
          · rw [if_pos fB]
            exact ⟨h1, .inl ⟨by show A.r = B.r + 1 + r0; omega, fun _ h => by cases h⟩⟩
          · rw [if_neg fB]
            exact ⟨h1, .inr ⟨h2, m⟩⟩
    · rw [if_neg hi, if_neg hi]
      exact ⟨h1, h2⟩
theorem beside_fold {w : Int} {r0 a0 : Nat} : ∀ (l : List Ent) (A B : RS), Beside w A B r0 a0 → Beside w (l.foldl (stepR w) A) (l.foldl (stepR w) B) r0 a0
  | [], _, _, h => h
  | e :: l, A, B, h => beside_fold l _ _ (beside_step h e)
theorem rounds_append (w : Int) (l m : List Ent) : (roundsP w (l ++ m)).a = (roundsP w l).a + (roundsP w m).a ∧ (roundsP w l).r + (roundsP w m).r ≤ (roundsP w (l ++ m)).r ∧ (roundsP w (l ++ m)).r ≤ (roundsP w l).r + (roundsP w m).r + 1 := by
  have h : Beside w (roundsP w l) rs0 (roundsP w l).r (roundsP w l).a := ⟨by show (roundsP w l).a = 0 + _; omega, .inl ⟨by show (roundsP w l).r = 0 + _; omega, fun _ h => by cases h⟩⟩
  have := beside_fold m _ _ h
  have e : roundsP w (l ++ m) = m.foldl (stepR w) (roundsP w l) := by unfold roundsP; rw [List.foldl_append]
  rw [e]
  obtain ⟨q1, q2⟩ := this
  refine ⟨?_, ?_⟩
  · rw [q1]; exact Nat.add_comm _ _
  · have e2 : roundsP w m = m.foldl (stepR w) rs0 := rfl
    rw [e2]
    rcases q2 with ⟨q, _⟩ | ⟨q, _⟩ <;> omega
theorem step_le (w : Int) (S : RS) (e : Ent) : (stepR w S e).r ≤ S.r + 1 ∧ (stepR w S e).a ≤ S.a + 1 := by
  unfold stepR
  repeat' split
  all_goals (constructor <;> first | omega | (simp only; omega))
theorem fold_le (w : Int) : ∀ (l : List Ent) (S : RS), (l.foldl (stepR w) S).r ≤ S.r + l.length ∧ (l.foldl (stepR w) S).a ≤ S.a + l.length
  | [], S => by simp
  | e :: l, S => by
    have h1 := step_le w S e
    have h2 := fold_le w l (stepR w S e)
    simp only [List.foldl_cons, List.length_cons]
    omega
theorem rounds_le (w : Int) (l : List Ent) : (roundsP w l).r ≤ l.length ∧ (roundsP w l).a ≤ l.length := by
  have := fold_le w l rs0
  simpa [rs0, roundsP] using this
theorem rounds_take (w : Int) (l : List Ent) {i : Nat} (hi : i < l.length) : roundsP w (l.take (i + 1)) = stepR w (roundsP w (l.take i)) l[i] := by
  unfold roundsP
  rw [List.take_add_one, List.foldl_append]
  simp [hi]
end Go.Proofs.YtnomffikflfilaaGreat
namespace Go.Proofs.YtnomffikflfilaaGreat
open Go.Ot Go.RowKit
set_option linter.unusedSimpArgs false
set_option linter.unusedVariables false
def cells8 (s : Nat → Bool) : List Value := (List.range 8).map (fun j => .bool (s j))
theorem cells8_len (s : Nat → Bool) : (cells8 s).length = 8 := by simp [cells8]
theorem cells8_get (s : Nat → Bool) {j : Nat} (hj : j < 8) : (cells8 s)[j]? = some (.bool (s j)) := by simp [cells8, hj]
theorem cells8_set (s : Nat → Bool) {j : Nat} (hj : j < 8) : (cells8 s).set j (.bool true) = cells8 (addS s j) := by
  apply List.ext_getElem?
  intro i
  by_cases hi : i < 8
  · by_cases h : j = i
    · subst h
      rw [List.getElem?_set_self (by rw [cells8_len]; exact hj), cells8_get _ hi]
      simp [addS]
    · rw [List.getElem?_set_ne h, cells8_get _ hi, cells8_get _ hi]
      simp [addS, Ne.symm h]
  · rw [List.getElem?_eq_none (by rw [List.length_set, cells8_len]; omega), List.getElem?_eq_none (by rw [cells8_len]; omega)]
def InvRo (H : Heap) (x : Value) (l : List Ent) (w : Int) (k : Nat) (t : Tm) (H1 : Heap) : Prop :=
  ∃ i q, i + k = l.length ∧ t 1 = iv w ∧ t 12 = x ∧ t 13 = iv l.length ∧ t 14 = iv i ∧ t 6 = iv (roundsP w (l.take i)).r ∧ t 7 = iv (roundsP w (l.take i)).a ∧ t 8 = iv (cnt w (roundsP w (l.take i)).s) ∧ t 9 = ptr q ∧
    On H H1 ∧ H.next ≤ q ∧ Vr H1 q 146 8 (cells8 (roundsP w (l.take i)).s) ∧ (1 ≤ w → full w (roundsP w (l.take i)).s = false)
theorem rounds_T {H : Heap} (hw : H.WF) {x : Value} {l : List Ent} (hx : Rl H x l) (hl : l.length ≤ 1000000) (w : Int) :
    T Tryz.prog 29 [x, iv w] H (.tuple #[iv (roundsP w l).r, iv (roundsP w l).a]) H := by
  obtain ⟨V, hV⟩ : ∃ V : Value, V = .tuple #[iv (roundsP w l).r, iv (roundsP w l).a] := ⟨_, rfl⟩
  rw [← hV]
  refine T_seen hm light29 (by rw [hV]; rfl) ?_
  obtain ⟨a0, c0, hx0⟩ := hx.len
  have hn0 : H.new 146 8 [.bool false, .bool false, .bool false, .bool false, .bool false, .bool false, .bool false, .bool false] = H.new 146 8 (cells8 fun _ => false) := rfl
  obtain ⟨H0', hH0⟩ : ∃ H0', H0' = H.new 146 8 (cells8 fun _ => false) := ⟨_, rfl⟩
  have on0 : On H H0' := by rw [hH0]; exact (On.refl hw).new _ _ _
  have V0 : Vr H0' H.next 146 8 (cells8 fun _ => false) := by rw [hH0]; exact Vr.mk' hw _ _ _
  rw [hx0]
  simp [L29, hn0, ← hH0]
  rw [← hx0]
  refine loop_at (InvRo H x l w) l.length ?_ ?_
  · refine ⟨0, H.next, by omega, by simp, by simp, by simp, by simp, by simp [roundsP, rs0], by simp [roundsP, rs0], ?_, by simp, on0, Nat.le_refl _, V0, fun h => full_zero h⟩
    have : cnt w (roundsP w []).s = 0 := by simp [cnt, roundsP, rs0]
    simp [this]
  · rintro k t H1 ⟨i, q, hik, t1, t12, t13, t14, t6, t7, t8, t9, on, hq, V1, hnf⟩
    obtain ⟨S, hS⟩ : ∃ S, S = roundsP w (l.take i) := ⟨_, rfl⟩
    rw [← hS] at t6 t7 t8 V1 hnf
    cases k with
    | zero =>
      have e1 : ¬ ((i : Int) < l.length) := by omega
      have ei : l.take i = l := List.take_of_length_le (by omega)
      rw [ei] at hS
      rw [← hS] at hV
      simp [L29_1, t14, t13, e1, t6, t7]
      exact ⟨hV.symm, on.keep⟩
    | succ k =>
      have hil : i < l.length := by omega
      have e1 : ((i : Int) < l.length) := by omega
      have e4 : IntKind.i64.wrap ((i : Int) + 1) = ((i + 1 : Nat) : Int) := by rw [w64 _ (by omega)]; omega
      obtain ⟨iN, hiN⟩ : ∃ n : Nat, n = i + 1 := ⟨_, rfl⟩
      have hSt : roundsP w (l.take iN) = stepR w S l[i] := by rw [hiN, hS]; exact rounds_take w l hil
      obtain ⟨e, he⟩ : ∃ e, e = l[i] := ⟨_, rfl⟩
      have hSle : S.r ≤ i ∧ S.a ≤ i := by
        have := rounds_le w (l.take i)
        rw [← hS, List.length_take] at this
        omega
      have hcl := cnt_le w S.s
      rw [← hiN] at e4
      obtain ⟨b, off, c, hxb, ldx, _, _⟩ := (hx.on hw on).get hil
      rw [← he] at ldx hSt
      have t12' := t12
      rw [hxb] at t12
      have st := new_storeA on.wf 62 2 [iv 0, .bool false] (erow e) rfl rfl (by decide)
      have VE : Vr (H1.new 62 2 (erow e)) H1.next 62 2 (erow e) := Vr.mk' on.wf _ _ _
      have V2 := V1.new on.wf 62 2 (erow e)
      have on2 : On H (H1.new 62 2 (erow e)) := on.new _ _ _
      have hqn : q < H1.next := on.wf.lt V1.bq
      obtain ⟨H2, hH2⟩ : ∃ H2, H2 = H1.new 62 2 (erow e) := ⟨_, rfl⟩
      rw [← hH2] at st VE V2 on2
      obtain ⟨p, hp⟩ : ∃ p, p = H1.next := ⟨_, rfl⟩
      rw [← hp] at st VE hqn
      have f0 : H2.load ⟨p, 0, none⟩ = some (iv e.1) := VE.load 0
      have f1 : H2.load ⟨p, 1, none⟩ = some (.bool e.2) := VE.load 1
      by_cases hab : e.2 = true
      · have wA : IntKind.i64.wrap ((S.a : Int) + 1) = ((S.a + 1 : Nat) : Int) := by rw [w64 _ (by omega)]; omega
        have hst : stepR w S e = ⟨S.r, S.a + 1, S.s⟩ := by unfold stepR; rw [if_pos hab]
        rw [hst] at hSt
        rw [hab] at f1
        obtain ⟨aN, haN⟩ : ∃ n : Nat, n = S.a + 1 := ⟨_, rfl⟩
        rw [← haN] at wA hSt
        simp [L29_1, t14, t13, e1, t12, hil, ldx, st, f1, t7, wA, e4, ← hp]
        exact ⟨k, by omega, iN, q, by omega, by simp [t1], by simp [t12'], by simp [t13], by simp, by simp [t6, hSt], by simp [hSt], by simp [t8, hSt], by simp [t9], on2, hq, by rw [hSt]; exact V2, by rw [hSt]; exact hnf⟩
      · have hab' : e.2 = false := by simpa using hab
        rw [hab'] at f1
        have stay : stepR w S e = S → ∀ tt : Tm, tt 1 = iv w → tt 12 = x → tt 13 = iv l.length → tt 14 = iv iN → tt 6 = iv S.r → tt 7 = iv S.a → tt 8 = iv (cnt w S.s) → tt 9 = ptr q → ∃ m, m < k + 1 ∧ InvRo H x l w m tt H2 := by
          intro h tt u1 u12 u13 u14 u6 u7 u8 u9
          rw [h] at hSt
          exact ⟨k, by omega, iN, q, by omega, u1, u12, u13, u14, by rw [u6, hSt], by rw [u7, hSt], by rw [u8, hSt], u9, on2, hq, by rw [hSt]; exact V2, by rw [hSt]; exact hnf⟩
        have hst0 : inW w e = false → stepR w S e = S := by intro h; unfold stepR; rw [hab', h]; simp
        by_cases w1 : w < 1
        · simp [L29_1, t14, t13, e1, t12, hil, ldx, st, f1, f0, t1, w1, e4, ← hp]
          exact stay (hst0 (by rw [Bool.eq_false_iff, Ne, inW_iff]; omega)) _ (by simp [t1]) (by simp [t12']) (by simp [t13]) (by simp) (by simp [t6]) (by simp [t7]) (by simp [t8]) (by simp [t9])
        by_cases w8 : 8 < w
        · simp [L29_1, t14, t13, e1, t12, hil, ldx, st, f1, f0, t1, w1, w8, e4, ← hp]
          exact stay (hst0 (by rw [Bool.eq_false_iff, Ne, inW_iff]; omega)) _ (by simp [t1]) (by simp [t12']) (by simp [t13]) (by simp) (by simp [t6]) (by simp [t7]) (by simp [t8]) (by simp [t9])
        by_cases e0 : e.1 < 0
        · simp [L29_1, t14, t13, e1, t12, hil, ldx, st, f1, f0, t1, w1, w8, e0, e4, ← hp]
          exact stay (hst0 (by rw [Bool.eq_false_iff, Ne, inW_iff]; omega)) _ (by simp [t1]) (by simp [t12']) (by simp [t13]) (by simp) (by simp [t6]) (by simp [t7]) (by simp [t8]) (by simp [t9])
        by_cases ew : w ≤ e.1
        · simp [L29_1, t14, t13, e1, t12, hil, ldx, st, f1, f0, t1, w1, w8, e0, ew, e4, ← hp]
          exact stay (hst0 (by rw [Bool.eq_false_iff, Ne, inW_iff]; omega)) _ (by simp [t1]) (by simp [t12']) (by simp [t13]) (by simp) (by simp [t6]) (by simp [t7]) (by simp [t8]) (by simp [t9])
        have hin : inW w e = true := by rw [inW_iff]; omega
        obtain ⟨j, hj⟩ : ∃ j, j = e.1.toNat := ⟨_, rfl⟩
        have ej : e.1 = (j : Int) := by omega
        have hj8 : j < 8 := by omega
        have hjw : j < w.toNat := by omega
        rw [ej] at f0 e0 ew
        have ix : sIdxArr 8 1 (ptr q) (iv j) = some (.pointer (some ⟨q, j, none⟩)) := by
          have c1 : (0 : Int) ≤ j ∧ (j : Int) < 8 := by omega
          simp [sIdxArr, c1, add_own, hj8]
        have ldj : H2.load ⟨q, j, none⟩ = some (.bool (S.s j)) := by rw [V2.load j, cells8_get _ hj8]
        by_cases hs : S.s j = true
        · rw [hs] at ldj
          have hst : stepR w S e = S := by
            unfold stepR
            rw [hab', hin, ← hj, addS_same _ hs, hnf (by omega)]
            simp
          simp [L29_1, t14, t13, e1, t12, hil, ldx, st, f1, f0, t1, w1, w8, e0, ew, t9, ix, ldj, e4, ← hp]
          exact stay hst _ (by simp [t1]) (by simp [t12']) (by simp [t13]) (by simp) (by simp [t6]) (by simp [t7]) (by simp [t8]) (by simp [t9])
        · have hs' : S.s j = false := by simpa using hs
          rw [hs'] at ldj
          have hca := cnt_add w S.s hs' hjw
          have hcf := cnt_full w (addS S.s j)
          have hcl2 := cnt_le w (addS S.s j)
          obtain ⟨s2, hs2⟩ : ∃ s2, s2 = addS S.s j := ⟨_, rfl⟩
          rw [← hs2] at hca hcf hcl2
          have stj : H2.store ⟨q, j, none⟩ (.bool true) = some (H2.put q (cells8 s2)) := by
            rw [V2.store j _ (by rw [cells8_len]; exact hj8), cells8_set _ hj8, hs2]
          have V3 := V2.put (cells8 s2)
          have on3 : On H (H2.put q (cells8 s2)) := on2.put hq _
          have VE3 := VE.beside (show p ≠ q by omega) (cells8 s2)
          obtain ⟨H3, hH3⟩ : ∃ H3, H3 = H2.put q (cells8 s2) := ⟨_, rfl⟩
          rw [← hH3] at stj V3 on3 VE3
          have wC : IntKind.i64.wrap ((cnt w S.s : Int) + 1) = (cnt w s2 : Int) := by rw [w64 _ (by omega)]; omega
          obtain ⟨cN, hcN⟩ : ∃ cN, cN = cnt w s2 := ⟨_, rfl⟩
          rw [← hcN] at wC
          by_cases hf : full w s2 = true
          · have hcw : ((cN : Int) == w) = true := by have := hcf.2 hf; simp; omega
            have hst : stepR w S e = ⟨S.r + 1, S.a, fun _ => false⟩ := by
              unfold stepR
              rw [hab', hin, ← hj, ← hs2, hf]
              simp
            rw [hst] at hSt
            have wR : IntKind.i64.wrap ((S.r : Int) + 1) = ((S.r + 1 : Nat) : Int) := by rw [w64 _ (by omega)]; omega
            obtain ⟨rN, hrN⟩ : ∃ n : Nat, n = S.r + 1 := ⟨_, rfl⟩
            rw [← hrN] at wR hSt
            have sa : sSliceArr 8 1 (ptr q) none none none = some (.slice (some ⟨q, 0, none⟩) 8 1) := by simp [sSliceArr, bnd, add_own]
            have cl : sClear H3 1 [.bool false] (.slice (some ⟨q, 0, none⟩) 8 1) = some (H3.put q (cells8 fun _ => false)) := by
              have h8 : zerosA [.bool false] (8 * 1) = cells8 fun _ => false := rfl
              have := V3.storeA (m := 8) (by decide) (cells8 fun _ => false) (cells8_len _) (cells8_len _)
              rw [sStore_agg _ _ _ _ (cells8_len _) (by decide)] at this
              simp only [sClear, h8]
              rw [if_neg (by decide)]
              exact this
            simp [L29_1, t14, t13, e1, t12, hil, ldx, st, f1, f0, t1, w1, w8, e0, ew, t9, ix, ldj, e4, ← hp, stj, t8, wC, hcw, t6, wR, sa, cl]
            refine ⟨k, by omega, iN, q, by omega, by simp [t1], by simp [t12'], by simp [t13], by simp, by simp [hSt], by simp [t7, hSt], ?_, by simp [t9], on3.put hq _, hq, by rw [hSt]; exact V3.put _, fun h => by rw [hSt]; exact full_zero h⟩
            rw [hSt]
            simp [cnt]
          · have hf' : full w s2 = false := by simpa using hf
            have hcw : ((cN : Int) == w) = false := by
              have : cN ≠ w.toNat := fun h => hf (hcf.1 (by omega))
              simp; omega
            have hst : stepR w S e = ⟨S.r, S.a, s2⟩ := by
              unfold stepR
              rw [hab', hin, ← hj, ← hs2, hf']
              simp
            rw [hst] at hSt
            simp [L29_1, t14, t13, e1, t12, hil, ldx, st, f1, f0, t1, w1, w8, e0, ew, t9, ix, ldj, e4, ← hp, stj, t8, wC, hcw]
            exact ⟨k, by omega, iN, q, by omega, by simp [t1], by simp [t12'], by simp [t13], by simp, by simp [t6, hSt], by simp [t7, hSt], by simp [hSt, hcN], by simp [t9], on3, hq, by rw [hSt]; exact V3, fun h => by rw [hSt]; exact hf'⟩
end Go.Proofs.YtnomffikflfilaaGreat
namespace Go.Proofs.YtnomffikflfilaaGreat
open Go.Ot Go.RowKit
open R14 (Twos)
set_option linter.unusedSimpArgs false
set_option linter.unusedVariables false
structure Cfg where
  workers : Int
  window : Int
  policy : Int
  chunk : Int
  reads : Int
  writes : Int
  outs : Int
  arena : Int
  edges : Int
  retry : Int
  force : Bool
abbrev cfgC (C : Cfg) : List Value := [iv C.workers, iv C.window, iv C.policy, iv C.chunk, iv C.reads, iv C.writes, iv C.outs, iv C.arena, iv C.edges, iv C.retry, .bool C.force]
def outV (n lo hi : Int) : Bool := decide (n < lo) || decide (hi < n)
def manyV (C : Cfg) : Bool := outV C.window 1 32 || outV C.reads 1 64 || outV C.writes 1 64 || outV C.outs 1 64 || outV C.arena 1 512 || outV C.edges 1 512
def rightE (C : Cfg) : Int := if outV C.workers 1 8 = true then 162 else if outV C.policy 1 3 = true then 160 else if outV C.chunk 1 200 = true then 161 else if manyV C = true ∨ outV C.retry 0 9 = true then 172 else 0
def prs (C : Cfg) : List (Int × Int) := [(C.window, 32), (C.reads, 64), (C.writes, 64), (C.outs, 64), (C.arena, 512), (C.edges, 512)]
theorem prs_many (C : Cfg) : manyV C = (prs C).any fun q => outV q.1 1 q.2 := by
  simp [manyV, prs, Bool.or_assoc]
def InvRg (G : Heap) (C : Cfg) (p : Nat) (y : Value) (k : Nat) (t : Tm) (H1 : Heap) : Prop :=
  ∃ i : Nat, i + k = 6 ∧ t 1 = ptr p ∧ t 47 = y ∧ t 48 = iv (6 : Nat) ∧ t 49 = iv i ∧ On G H1 ∧ ((prs C).take i).any (fun q => outV q.1 1 q.2) = false
theorem right_T {H : Heap} (hw : H.WF) (C : Cfg) : T Tryz.prog 44 [.agg (cfgC C).toArray] H (iv (rightE C)) H := by
  obtain ⟨E, hE⟩ : ∃ E, E = rightE C := ⟨_, rfl⟩
  rw [← hE]
  refine T_seen hm light44 rfl ?_
  have vr : Vr (H.new 32 11 (cfgC C)) H.next 32 11 (cfgC C) := Vr.mk' hw _ _ _
  have on : On H (H.new 32 11 (cfgC C)) := (On.refl hw).new _ _ _
  obtain ⟨G, hG⟩ : ∃ G, G = H.new 32 11 (cfgC C) := ⟨_, rfl⟩
  have nG : G.next = H.next + 1 := by rw [hG]; simp
  rw [← hG] at vr on
  have l0 : G.load ⟨H.next, 0, none⟩ = some (iv C.workers) := vr.load 0
  have l1 : G.load ⟨H.next, 1, none⟩ = some (iv C.window) := vr.load 1
  have l2 : G.load ⟨H.next, 2, none⟩ = some (iv C.policy) := vr.load 2
  have l3 : G.load ⟨H.next, 3, none⟩ = some (iv C.chunk) := vr.load 3
  have l4 : G.load ⟨H.next, 4, none⟩ = some (iv C.reads) := vr.load 4
  have l5 : G.load ⟨H.next, 5, none⟩ = some (iv C.writes) := vr.load 5
  have l6 : G.load ⟨H.next, 6, none⟩ = some (iv C.outs) := vr.load 6
  have l7 : G.load ⟨H.next, 7, none⟩ = some (iv C.arena) := vr.load 7
  have l8 : G.load ⟨H.next, 8, none⟩ = some (iv C.edges) := vr.load 8
  unfold rightE at hE
  by_cases a1 : C.workers < 1
  · rw [if_pos (by simp [outV, a1])] at hE
    simp [L44, ← hG, l0, a1, hE]
    exact on.keep
  by_cases a2 : 8 < C.workers
  · rw [if_pos (by simp [outV, a2])] at hE
    simp [L44, ← hG, l0, a1, a2, hE]
    exact on.keep
  rw [if_neg (by simp [outV, a1, a2])] at hE
  by_cases b1 : C.policy < 1
  · rw [if_pos (by simp [outV, b1])] at hE
    simp [L44, ← hG, l0, a1, a2, l2, b1, hE]
    exact on.keep
  by_cases b2 : 3 < C.policy
  · rw [if_pos (by simp [outV, b2])] at hE
    simp [L44, ← hG, l0, a1, a2, l2, b1, b2, hE]
    exact on.keep
  rw [if_neg (by simp [outV, b1, b2])] at hE
  by_cases c1 : C.chunk < 1
  · rw [if_pos (by simp [outV, c1])] at hE
    simp [L44, ← hG, l0, a1, a2, l2, b1, b2, l3, c1, hE]
    exact on.keep
  by_cases c2 : 200 < C.chunk
  · rw [if_pos (by simp [outV, c2])] at hE
    simp [L44, ← hG, l0, a1, a2, l2, b1, b2, l3, c1, c2, hE]
    exact on.keep
  rw [if_neg (by simp [outV, c1, c2])] at hE
  have hz : zerosA [iv 0, iv 0] 12 = [iv 0, iv 0, iv 0, iv 0, iv 0, iv 0, iv 0, iv 0, iv 0, iv 0, iv 0, iv 0] := rfl
  obtain ⟨rowc, hrow⟩ : ∃ r, r = [iv C.window, iv 32, iv C.reads, iv 64, iv C.writes, iv 64, iv C.outs, iv 64, iv C.arena, iv 512, iv C.edges, iv 512] := ⟨_, rfl⟩
  obtain ⟨HB, hHB⟩ : ∃ HB, HB = G.new 171 2 rowc := ⟨_, rfl⟩
  have VB : Vr HB G.next 171 2 rowc := by rw [hHB]; exact Vr.mk' on.wf _ _ _
  have onB : On G HB := by rw [hHB]; exact (On.refl on.wf).new _ _ _
  obtain ⟨y, hy⟩ : ∃ y : Value, y = .slice (some ⟨G.next, 0, none⟩) 6 0 := ⟨_, rfl⟩
  have tw : Twos HB y (prs C) := by
    refine .inr ⟨G.next, 0, 0, hy, fun i hi => ?_⟩
    have hi6 : i < 6 := hi
    rw [VB.load, VB.load, hrow]
    match i, hi6 with
    | 0, _ => exact ⟨rfl, rfl⟩
    | 1, _ => exact ⟨rfl, rfl⟩
    | 2, _ => exact ⟨rfl, rfl⟩
    | 3, _ => exact ⟨rfl, rfl⟩
    | 4, _ => exact ⟨rfl, rfl⟩
    | 5, _ => exact ⟨rfl, rfl⟩
  rw [hrow] at hHB
  simp [L44, ← hG, l0, a1, a2, l2, b1, b2, l3, c1, c2, l1, l4, l5, l6, l7, l8, hz, ← hHB]
  refine loop_at (InvRg HB C H.next y) 6 ?_ ?_
  · exact ⟨0, by omega, by simp, by simp [hy, nG], by simp, by simp, On.refl onB.wf, by simp⟩
  · rintro k t H1 ⟨i, hik, t1, t47, t48, t49, on1, hno⟩
    have onH := (on.trans onB).trans on1
    cases k with
    | zero =>
      have ei : i = 6 := by omega
      subst ei
      have hm0 : manyV C = false := by rw [prs_many]; exact hno
      have l9 : H1.load ⟨H.next, 9, none⟩ = some (iv C.retry) := (vr.on on.wf (onB.trans on1)).load 9
      by_cases d1 : C.retry < 0
      · rw [if_pos (.inr (by simp [outV, d1]))] at hE
        simp [L44_1, t49, t48, t1, l9, d1, hE]
        exact onH.keep
      · by_cases d2 : 9 < C.retry
        · rw [if_pos (.inr (by simp [outV, d2]))] at hE
          simp [L44_1, t49, t48, t1, l9, d1, d2, hE]
          exact onH.keep
        · rw [if_neg (by simp [outV, d1, d2, hm0])] at hE
          simp [L44_1, t49, t48, t1, l9, d1, d2, hE]
          exact onH.keep
    | succ k =>
      have hi6 : i < 6 := by omega
      have hil : i < (prs C).length := hi6
      have e1 : (i : Int) < 6 := by omega
      have e4 : IntKind.i64.wrap ((i : Int) + 1) = ((i + 1 : Nat) : Int) := by rw [w64 _ (by omega)]; omega
      obtain ⟨iN, hiN⟩ : ∃ n : Nat, n = i + 1 := ⟨_, rfl⟩
      rw [← hiN] at e4
      obtain ⟨b, off, c, hxb, ldx, _⟩ := twos_rws (tw.keep onB.wf on1.base on1.keep) hil
      have hxb : y = .slice (some ⟨b, off, none⟩) 6 c := hxb
      have htk : (prs C).take iN = (prs C).take i ++ [(prs C)[i]] := by rw [hiN, List.take_succ_eq_append_getElem hil]
      have hany : ((prs C).take iN).any (fun q => outV q.1 1 q.2) = outV (prs C)[i].1 1 (prs C)[i].2 := by rw [htk, List.any_append, hno]; simp
      have hbad : outV (prs C)[i].1 1 (prs C)[i].2 = true → E = 172 := by
        intro h
        have hmv : manyV C = true := by
          rw [prs_many, List.any_eq_true]
          exact ⟨(prs C)[i], List.getElem_mem _, h⟩
        rw [hE, if_pos (.inl hmv)]
      obtain ⟨e, he⟩ : ∃ e, e = (prs C)[i] := ⟨_, rfl⟩
      rw [← he] at ldx hany hbad
      have t47' := t47
      rw [hxb] at t47
      have st := new_storeA on1.wf 171 2 [iv 0, iv 0] [iv e.1, iv e.2] rfl rfl (by decide)
      have VE : Vr (H1.new 171 2 [iv e.1, iv e.2]) H1.next 171 2 [iv e.1, iv e.2] := Vr.mk' on1.wf _ _ _
      have on2 : On HB (H1.new 171 2 [iv e.1, iv e.2]) := on1.new _ _ _
      obtain ⟨H2, hH2⟩ : ∃ H2, H2 = H1.new 171 2 [iv e.1, iv e.2] := ⟨_, rfl⟩
      rw [← hH2] at st VE on2
      obtain ⟨p, hp⟩ : ∃ p, p = H1.next := ⟨_, rfl⟩
      rw [← hp] at st VE
      have f0 : H2.load ⟨p, 0, none⟩ = some (iv e.1) := VE.load 0
      have f1 : H2.load ⟨p, 1, none⟩ = some (iv e.2) := VE.load 1
      have ix0 : sIdxArr 2 1 (ptr p) (iv 0) = some (.pointer (some ⟨p, 0, none⟩)) := by simp [sIdxArr, add_own]
      have ix1 : sIdxArr 2 1 (ptr p) (iv 1) = some (.pointer (some ⟨p, 1, none⟩)) := by simp [sIdxArr, add_own]
      have onH2 := (on.trans onB).trans on2
      by_cases d1 : e.1 < 1
      · have := hbad (by simp [outV, d1])
        simp [L44_1, t49, t48, e1, hi6, t47, ldx, st, ← hp, ix0, f0, d1, this]
        exact onH2.keep
      · by_cases d2 : e.2 < e.1
        · have := hbad (by simp [outV, d2])
          simp [L44_1, t49, t48, e1, hi6, t47, ldx, st, ← hp, ix0, f0, d1, ix1, f1, d2, this]
          exact onH2.keep
        · simp [L44_1, t49, t48, e1, hi6, t47, ldx, st, ← hp, ix0, f0, d1, ix1, f1, d2, e4]
          exact ⟨k, by omega, iN, by omega, by simp [t1], by simp [t47', hxb], by simp [t48], by simp, on2, by rw [hany]; simp [outV, d1, d2]⟩
end Go.Proofs.YtnomffikflfilaaGreat
