/-
  Chapter 26: rows of entries that may be read; two entries alike; the document's Same.
-/
import Derived.Test.YtnomffikflfilaaGreatSeatBG
namespace Go.Proofs.YtnomffikflfilaaGreat
open Go.Ot Go.RowKit
set_option linter.unusedSimpArgs false
set_option linter.unusedVariables false
abbrev Ent := Int × Bool
def erow (e : Ent) : List Value := [iv e.1, .bool e.2]
def ec (l : List Ent) : List Value := (l.map erow).flatten
theorem ec_append (a b : List Ent) : ec (a ++ b) = ec a ++ ec b := by simp [ec]
theorem ec_len (l : List Ent) : (ec l).length = l.length * 2 := by
  induction l with
  | nil => rfl
  | cons a l ih => simp [ec, erow] at ih ⊢; omega
inductive Res where
  | ok (l : List Ent) (a : Nat)
  | err (e : Int) (a : Nat)
abbrev Rl (H : Heap) (x : Value) (l : List Ent) : Prop := Rws H 2 x (l.map erow)
theorem erow_len (l : List Ent) : ∀ r ∈ l.map erow, r.length = 2 := by
  intro r hr; obtain ⟨q, _, rfl⟩ := List.mem_map.1 hr; rfl
theorem Rl.get {H : Heap} {x : Value} {l : List Ent} (h : Rl H x l) {i : Nat} (hi : i < l.length) :
    ∃ b off c, x = .slice (some ⟨b, off, none⟩) l.length c ∧ H.loadN ⟨b, off + i * 2, none⟩ 0 2 = some (erow l[i]) ∧ H.load ⟨b, off + i * 2, none⟩ = some (iv l[i].1) ∧ H.load ⟨b, off + i * 2 + 1, none⟩ = some (.bool l[i].2) := by
  obtain ⟨b, off, c, hx, h1, h2, h3⟩ := Rws.at h (i := i) (by simpa using hi)
  simp only [List.getElem_map] at h2 h3
  refine ⟨b, off, c, by simpa using hx, h2, h3 0 (by simp [erow]), h3 1 (by simp [erow])⟩
theorem Rl.len {H : Heap} {x : Value} {l : List Ent} (h : Rl H x l) : ∃ a c, x = .slice a l.length c := by
  obtain ⟨a, c, e⟩ := Rws.len h
  exact ⟨a, c, by simpa using e⟩
theorem Rl.on {H H1 : Heap} (hw : H.WF) {x : Value} {l : List Ent} (h : Rl H x l) (o : On H H1) : Rl H1 x l := Rws.keep hw o.base o.keep h
theorem Own.rl {H : Heap} {l : List Ent} {x : Value} (h : Own H 62 2 l.length (ec l) x) : Rl H x l := by
  have h' : Own H 62 2 (l.map erow).length (l.map erow).flatten x := by simpa [ec] using h
  exact h'.rws (erow_len l)
theorem rws_src {H : Heap} {sz : Nat} {x : Value} {l : List (List Value)} (hs : ∀ r ∈ l, r.length = sz) (h : Rws H sz x l) : srcCells H sz x = some (l.length, l.flatten) := by
  rcases h with ⟨rfl, rfl⟩ | ⟨b, off, c, rfl, hh⟩
  · rfl
  · rw [srcCells_slice]
    have hfl := flatten_len hs
    by_cases hsz : sz = 0
    · subst hsz
      have : l.flatten = [] := List.length_eq_zero_iff.1 (by rw [hfl]; omega)
      rw [this]
      simp [Heap.loadN]
    · have := loadN_cells (H := H) (b := b) (off := off) (l := l.flatten) (i := 0) (fun j hj => by
        rw [hfl] at hj
        have hq : j / sz < l.length := by
          rw [Nat.div_lt_iff_lt_mul (by omega)]; exact hj
        have hm' : j % sz < sz := Nat.mod_lt _ (by omega)
        obtain ⟨h1, h2⟩ := hh (j / sz) hq
        have h3 := h2 (j % sz) (by rw [h1]; exact hm')
        have h4 := flatten_get hs hq (j := j % sz) (by rw [h1]; exact hm')
        have hjj : j / sz * sz + j % sz = j := by rw [Nat.mul_comm]; exact Nat.div_add_mod j sz
        rw [hjj] at h4
        have hjl : j < l.flatten.length := by rw [hfl]; exact hj
        rw [List.getElem?_eq_getElem hjl] at h4
        have : off + 0 + j = off + j / sz * sz + j % sz := by omega
        rw [this, h3]
        exact h4.symm)
      rw [hfl] at this
      rw [this]
      rfl
theorem Rl.src {H : Heap} {x : Value} {l : List Ent} (h : Rl H x l) : srcCells H 2 x = some (l.length, ec l) := by
  have := rws_src (erow_len l) h
  simpa [ec] using this
/-- A part of a row. -/
theorem Rl.part {H : Heap} {x : Value} {l : List Ent} (h : Rl H x l) {i j : Nat} (hij : i ≤ j) (hj : j ≤ l.length) : ∃ y, sSlice 2 x (some (iv i)) (some (iv j)) none = some y ∧ Rl H y ((l.drop i).take (j - i)) := by
  rcases h with ⟨rfl, h0⟩ | ⟨b, off, c, rfl, hh⟩
  · have : l = [] := by simpa using h0
    subst this
    have hj0 : j = 0 := by simpa using hj
    have hi0 : i = 0 := by omega
    subst hj0 hi0
    exact ⟨.slice none 0 0, by simp [sSlice, bnd], .inl ⟨rfl, by simp⟩⟩
  · have hlen : ((l.drop i).take (j - i)).length = j - i := by rw [List.length_take, List.length_drop]; omega
    obtain ⟨c', hc'⟩ : ∃ c', sSlice 2 (.slice (some ⟨b, off, none⟩) (l.map erow).length c) (some (iv i)) (some (iv j)) none = some (.slice (some ⟨b, off + i * 2, none⟩) (j - i) c') := by
      simp only [sSlice, bnd, List.length_map]
      simp [hij, hj]
      rw [add_own]
    refine ⟨_, hc', .inr ⟨b, off + i * 2, c', by rw [List.length_map, hlen], fun k hk => ?_⟩⟩
    rw [List.length_map, hlen] at hk
    have h1 : i + k < (l.map erow).length := by rw [List.length_map]; omega
    obtain ⟨h2, h3⟩ := hh (i + k) h1
    simp only [List.getElem_map, List.getElem_take, List.getElem_drop] at h2 h3 ⊢
    refine ⟨h2, fun q hq => ?_⟩
    have := h3 q hq
    rw [show off + (i + k) * 2 + q = off + i * 2 + k * 2 + q by rw [Nat.add_mul]; omega] at this
    exact this
/-! ### two entries -/
theorem stepG (w : World) {xs ys : Array Value} {f : Field} {fs : List Field} {n m : Int} (hn : f.name ≠ "_") (hk : Tryz.prog.plainKey f.type = true) (hu : Tryz.prog.underlying f.type = some (.int .i64)) (hx : xs[f.offset]? = some (iv n)) (hy : ys[f.offset]? = some (iv m)) :
    (Op.eqFields 9999 xs ys (f :: fs)).run Tryz.prog w = if n = m then (Op.eqFields 9999 xs ys fs).run Tryz.prog w else .ok false w := by
  simp only [Op.eqFields]
  rw [if_pos hn]
  simp only [Sem.run_bind, run_part_plain w hk hx, run_part_plain w hk hy, Result.andThen_ok, run_equalIn_int w 9998 f.type .i64 .i64 _ _ hu]
  by_cases h : n = m
  · simp [h]
  · simp [h]
theorem stepB (w : World) {xs ys : Array Value} {f : Field} {fs : List Field} {n m : Bool} (hn : f.name ≠ "_") (hk : Tryz.prog.plainKey f.type = true) (hu : Tryz.prog.underlying f.type = some .bool) (hx : xs[f.offset]? = some (.bool n)) (hy : ys[f.offset]? = some (.bool m)) :
    (Op.eqFields 9999 xs ys (f :: fs)).run Tryz.prog w = if n = m then (Op.eqFields 9999 xs ys fs).run Tryz.prog w else .ok false w := by
  simp only [Op.eqFields]
  rw [if_pos hn]
  simp only [Sem.run_bind, run_part_plain w hk hx, run_part_plain w hk hy, Result.andThen_ok, run_equalIn_bool' w 9998 f.type _ _ hu]
  by_cases h : n = m
  · simp [h]
  · simp [h]
set_option maxRecDepth 100000 in
theorem eqN (e f : Ent) (w : World) : (Op.equal 62 (.agg (erow e).toArray) (.agg (erow f).toArray)).run Tryz.prog w = .ok (decide (e = f)) w := by
  have hd : Op.equal 62 (.agg (erow e).toArray) (.agg (erow f).toArray) = Op.equalIn (9999 + 1) 62 (.agg (erow e).toArray) (.agg (erow f).toArray) := rfl
  have hf : ∃ f1 f2 : Field, Tryz.prog.fieldsOf 62 = #[f1, f2] ∧ f1.name ≠ "_" ∧ f2.name ≠ "_" ∧ f1.offset = 0 ∧ f2.offset = 1 ∧ Tryz.prog.underlying f1.type = some (.int .i64) ∧ Tryz.prog.underlying f2.type = some .bool ∧ Tryz.prog.plainKey f1.type = true ∧ Tryz.prog.plainKey f2.type = true ∧ Tryz.prog.underlying 62 = some (.struct #[f1, f2]) := by
    unfold Program.fieldsOf
    rw [Tryz.underlying62]
    exact ⟨_, _, rfl, by decide, by decide, rfl, rfl, Tryz.underlying3, Tryz.underlying4, by kernel_rfl, by kernel_rfl, rfl⟩
  obtain ⟨f1, f2, hf, n1, n2, o1, o2, u1, u2, k1, k2, hu⟩ := hf
  rw [hd, run_equalIn_struct w 9999 62 _ _ (by rw [hf]; exact hu) (by kernel_rfl), hf]
  show (Op.eqFields 9999 (erow e).toArray (erow f).toArray [f1, f2]).run Tryz.prog w = _
  rw [stepG (n := e.1) (m := f.1) w n1 k1 u1 (by rw [o1]; rfl) (by rw [o1]; rfl), stepB (n := e.2) (m := f.2) w n2 k2 u2 (by rw [o2]; rfl) (by rw [o2]; rfl)]
  obtain ⟨a, b⟩ := e
  obtain ⟨c, d⟩ := f
  by_cases h1 : a = c <;> by_cases h2 : b = d <;> simp [h1, h2, Op.eqFields] <;> rfl
def InvSm (H : Heap) (x y : Value) (l m : List Ent) (k : Nat) (t : Tm) (H1 : Heap) : Prop :=
  ∃ i, i + k = l.length ∧ t 0 = x ∧ t 1 = y ∧ t 5 = iv i ∧ H1 = H ∧ l.take i = m.take i
theorem same_T {H : Heap} {x y : Value} {l m : List Ent} (hx : Rl H x l) (hy : Rl H y m) (hl : l.length ≤ 100000) : T Tryz.prog 59 [x, y] H (.bool (decide (l = m))) H := by
  obtain ⟨bb, hbb⟩ : ∃ bb, bb = decide (l = m) := ⟨_, rfl⟩
  rw [← hbb]
  refine T_eq hm light59 ?_
  obtain ⟨a1, c1, h1⟩ := hx.len
  obtain ⟨a2, c2, h2⟩ := hy.len
  by_cases hlm : l.length = m.length
  · have e0 : ((l.length : Int) != (m.length : Int)) = false := by simp [hlm]
    rw [h1, h2]
    simp [L59, e0]
    rw [← h1, ← h2]
    refine loop_at (InvSm H x y l m) l.length ?_ ?_
    · exact ⟨0, by omega, by simp, by simp, by simp, rfl, by simp⟩
    · rintro k t H1 ⟨i, hik, t0, t1, t5, rfl, htk⟩
      cases k with
      | zero =>
        have e1 : ¬ ((i : Int) < l.length) := by omega
        have : l = m := by
          rw [List.take_of_length_le (by omega), List.take_of_length_le (by omega)] at htk
          exact htk
        have hb : bb = true := by rw [hbb]; simp [this]
        rw [h1] at t0
        simp [L59_1, t5, t0, e1, hb]
      | succ k =>
        have hil : i < l.length := by omega
        have him : i < m.length := by omega
        have e1 : ((i : Int) < l.length) := by omega
        have e4 : IntKind.i64.wrap ((i : Int) + 1) = ((i + 1 : Nat) : Int) := by rw [w64 _ (by omega)]; omega
        obtain ⟨iN, hiN⟩ : ∃ n : Nat, n = i + 1 := ⟨_, rfl⟩
        rw [← hiN] at e4
        obtain ⟨b, off, c, hxb, ldx, _, _⟩ := hx.get hil
        obtain ⟨b', off', c', hyb, ldy, _, _⟩ := hy.get him
        have t0' := t0
        have t1' := t1
        rw [hxb] at t0
        rw [hyb] at t1
        simp [L59_1, t5, t0, t1, e1, hil, him, ldx, ldy, e4]
        refine goE_of (by rfl) (by rfl) (eqN l[i] m[i]) ?_
        by_cases he : l[i] = m[i]
        · simp [he, t5, e4]
          refine ⟨k, by omega, iN, by omega, by simp [t0'], by simp [t1'], by simp, rfl, ?_⟩
          rw [hiN, List.take_add_one, List.take_add_one, htk]
          simp [hil, him, he]
        · have hb : bb = false := by
            rw [hbb]; simp
            intro h; subst h; exact he rfl
          simp [he, hb]
  · have e0 : ((l.length : Int) != (m.length : Int)) = true := by simp; omega
    have hb : bb = false := by
      rw [hbb]; simp
      intro h; rw [h] at hlm; exact hlm rfl
    rw [h1, h2]
    simp [L59, e0, hb]
end Go.Proofs.YtnomffikflfilaaGreat
