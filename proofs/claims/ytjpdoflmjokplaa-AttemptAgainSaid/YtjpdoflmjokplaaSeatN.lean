/-
  Chapter 22: a whole log: what it hands out; cleared. Chapter 22: New, by both. Chapter 22: a row copied and one more; the document's Emit.
-/
import Derived.Test.YtjpdoflmjokplaaSeatM
namespace Go.Proofs.Ytjpdoflmjokplaa
open Go.Ot Go.RowKit
set_option linter.unusedSimpArgs false
set_option linter.unusedVariables false
/-- A new row, and nothing else. -/
structure Row (H H1 : Heap) (ety sz n : Nat) (cells : List Value) (y : Value) : Prop where
  own : Own H1 ety sz n cells y
  wf : H1.WF
  base : H1.base = H.base
  next : H.next ≤ H1.next
  new : ∀ b, blkOf y = some b → H.next ≤ b
  keep : ∀ b, b < H.next → H1.blk b = H.blk b
theorem Row.nil {H : Heap} (hw : H.WF) (ety sz : Nat) : Row H H ety sz 0 [] (.slice none 0 0) :=
  ⟨Own.nil _ _ _, hw, rfl, Nat.le_refl _, fun b hb => (by cases hb), fun _ _ => rfl⟩
/-- A row copied: append of all to nothing. -/
theorem copy_row {H : Heap} (hw : H.WF) {ety sz n : Nat} (bytes : Nat) {cells : List Value} {x : Value} (hx : Own H ety sz n cells x) (h0 : 0 < sz) (hb : n * bytes ≤ 140737488355328) :
    ∃ y H', sAppend H ety sz bytes (.slice none 0 0) x = some (y, H') ∧ Row H H' ety sz n cells y := by
  have hnB := hw.next_ge
  by_cases hn : n = 0
  · subst hn
    have hc : cells = [] := by simpa using hx.1
    subst hc
    have hsrc : srcCells H sz x = some (0, []) := by
      rcases hx.2 with ⟨h, _⟩ | ⟨b, rest, h, _, hk⟩
      · rw [h]; rfl
      · rw [h, srcCells_slice]; simp [Heap.loadN]
    exact ⟨_, H, append_none hsrc (.inr ⟨rfl, rfl⟩), Row.nil hw _ _⟩
  · have hsrc : srcCells H sz x = some (n, cells) := by
      rcases hx.2 with ⟨h, h1⟩ | ⟨b, rest, h, hB, hk⟩
      · omega
      · rw [h, src_at hB hk (by simp [hx.1])]
        simp only [Nat.zero_add, List.drop_zero]
        rw [← hx.1, List.take_left]
    refine ⟨_, _, append_any (Own.nil H ety sz) hsrc hn (by rw [Nat.zero_add]; exact hb), ?_⟩
    refine ⟨?_, WF_new (WF_drop hw _) _ _ _, by simp, by simp, fun b hb => by simp at hb; omega, fun b hb => ?_⟩
    · have := Own.mk (H := (H.drop (.slice none 0 0)).new ety sz cells) (ety := ety) (sz := sz) (n := n) (b := H.next) (cells := cells) hx.1 (by simp; omega) (by simp)
      simpa using this
    · have : b ≠ H.next := by omega
      simp [this, blk_drop]
theorem lreads_T {H : Heap} {lo hi p q : Nat} {ops : List Int} {mr mw mo : Int} {d : LD} {x : LX} (hw : H.WF) (s : LS H lo hi p q ops mr mw mo d x) (hl : d.rs.length ≤ 1000) : ∃ y H', T Try.prog 20 [ptr p] H y H' ∧ Row H H' 29 3 d.rs.length (c3 d.rs) y := by
  refine T_by hm light20 ?_
  obtain ⟨l0, l1, l2, l3, l4, l5, l6⟩ := s.ld
  obtain ⟨y, H', ap, row⟩ := copy_row hw 24 s.lg.ro (by decide) (by omega)
  obtain ⟨a, hy⟩ := row.own.len
  rw [hy] at ap row
  simp [L20, l0, ap]
  exact row
theorem lwrites_T {H : Heap} {lo hi p q : Nat} {ops : List Int} {mr mw mo : Int} {d : LD} {x : LX} (hw : H.WF) (s : LS H lo hi p q ops mr mw mo d x) (hl : d.ws.length ≤ 1000) : ∃ y H', T Try.prog 17 [ptr p] H y H' ∧ Row H H' 92 2 d.ws.length (c2 d.ws) y := by
  refine T_by hm light17 ?_
  obtain ⟨l0, l1, l2, l3, l4, l5, l6⟩ := s.ld
  obtain ⟨y, H', ap, row⟩ := copy_row hw 16 s.lg.wo (by decide) (by omega)
  obtain ⟨a, hy⟩ := row.own.len
  rw [hy] at ap row
  simp [L17, l1, ap]
  exact row
theorem louts_T {H : Heap} {lo hi p q : Nat} {ops : List Int} {mr mw mo : Int} {d : LD} {x : LX} (hw : H.WF) (s : LS H lo hi p q ops mr mw mo d x) (hl : d.os.length ≤ 1000) : ∃ y H', T Try.prog 19 [ptr p] H y H' ∧ Row H H' 2 1 d.os.length (ci d.os) y := by
  refine T_by hm light19 ?_
  obtain ⟨l0, l1, l2, l3, l4, l5, l6⟩ := s.ld
  obtain ⟨y, H', ap, row⟩ := copy_row hw 8 s.oo (by decide) (by omega)
  obtain ⟨a, hy⟩ := row.own.len
  rw [hy] at ap row
  simp [L19, l2, ap]
  exact row
theorem lonto_T {H : Heap} {lo hi p q : Nat} {ops : List Int} {mr mw mo : Int} {d : LD} {x : LX} (hw : H.WF) (s : LS H lo hi p q ops mr mw mo d x) (hol : ops.length ≤ 1000) {z : Value} {ahead : List Int} (hz : Ints H .i64 z ahead) (hla : ahead.length ≤ 1000000) :
    ∃ v H', T Try.prog 21 [ptr p, z] H v H' ∧ OntoQ H ops d.now ahead v H' := by
  obtain ⟨v, H', hT, hQ⟩ := onto_T hw s.hp s.nl hol s.hi hz hla
  refine ⟨v, H', ?_, hQ⟩
  refine T_eq hm light21 ?_
  obtain ⟨l0, l1, l2, l3, l4, l5, l6⟩ := s.ld
  simp [L21, l3]
  refine goT_of hT ?_
  unfold OntoQ at hQ
  split at hQ
  · obtain ⟨y, rfl, og⟩ := hQ
    simp
    obtain ⟨a, hy⟩ := og.own.len
    rw [hy]
    rfl
  · obtain ⟨rfl, rfl⟩ := hQ
    simp
end Go.Proofs.Ytjpdoflmjokplaa
namespace Go.Proofs.Ytjpdoflmjokplaa
open Go.Ot Go.RowKit
set_option linter.unusedSimpArgs false
set_option linter.unusedVariables false
/-- Memory stands: only new blocks. -/
structure On (H H1 : Heap) : Prop where
  wf : H1.WF
  base : H1.base = H.base
  next : H.next ≤ H1.next
  keep : ∀ b, b < H.next → H1.blk b = H.blk b
def badN (n : Int) : Bool := decide (n < 1) || decide (64 < n)
def chkC (l : List (Int × Int)) : Int := if 4 < l.length then 171 else if l.all (fun r => right r.1) = true then 0 else 140
def newC (n1 n2 n3 : Int) (l : List (Int × Int)) : Int := if badN n1 || badN n2 || badN n3 then 161 else chkC l
def InvCk (H : Heap) (x : Value) (l : List (Int × Int)) (k : Nat) (t : Tm) (H1 : Heap) : Prop :=
  ∃ i : Nat, i + k = l.length ∧ t 0 = x ∧ t 3 = iv i ∧ (∀ j (h : j < l.length), j < i → right l[j].1 = true) ∧ H1 = H
theorem check_T {H : Heap} {x : Value} {l : List (Int × Int)} (hx : Twos H x l) (hl : l.length ≤ 100000) : T Try.prog 27 [x] H (iv (chkC l)) H := by
  obtain ⟨a, c, hxl⟩ := hx.len
  by_cases h4 : 4 < l.length
  · rw [show chkC l = 171 by simp [chkC, h4]]
    refine T_eq hm light27 ?_
    rw [hxl]
    simp [L27, h4]
  · refine T_eq hm light27 ?_
    rw [hxl]
    simp [L27, h4]
    rw [← hxl]
    refine loop_at (InvCk H x l) l.length ?_ ?_
    · exact ⟨0, by omega, by simp [hxl], by simp, fun j _ h => absurd h (by omega), rfl⟩
    · rintro k t H1 ⟨i, hik, t0, t3, hall, rfl⟩
      cases k with
      | zero =>
        have e1 : ¬ ((i : Int) < l.length) := by omega
        have ha : l.all (fun r => right r.1) = true := by
          rw [List.all_eq_true]
          intro r hr
          obtain ⟨j, hj, rfl⟩ := List.mem_iff_getElem.1 hr
          exact hall j hj (by omega)
        have e2 : chkC l = 0 := by simp only [chkC, h4, if_false, ha, if_true]
        rw [hxl] at t0
        rw [e2]
        simp [L27_1, t3, t0, e1]
      | succ k =>
        have hil : i < l.length := by omega
        have e1 : ((i : Int) < l.length) := by omega
        have e4 : IntKind.i64.wrap ((i : Int) + 1) = ((i + 1 : Nat) : Int) := by rw [w64 _ (by omega)]; omega
        obtain ⟨iN, hiN⟩ : ∃ n : Nat, n = i + 1 := ⟨_, rfl⟩
        rw [← hiN] at e4
        obtain ⟨b, off, c2, hxb, l0, _⟩ := hx.at hil
        have t0' := t0
        rw [hxb] at t0
        have hT := rightR_T (H := H1) l[i].1
        obtain ⟨rb, hrb⟩ : ∃ rb, rb = right l[i].1 := ⟨_, rfl⟩
        rw [← hrb] at hT
        cases rb with
        | true =>
          simp [L27_1, t3, t0, e1, hil, l0]
          refine goT_of hT ?_
          simp [t3, e4]
          refine ⟨k, by omega, iN, by omega, by simp [t0'], by simp, fun j hj hji => ?_, rfl⟩
          by_cases e : j = i
          · subst e; exact hrb.symm
          · exact hall j hj (by omega)
        | false =>
          have hna : ¬ l.all (fun r => right r.1) = true := by
            intro h
            have := List.all_eq_true.1 h l[i] (List.getElem_mem hil)
            rw [← hrb] at this
            cases this
          have e2 : chkC l = 140 := by unfold chkC; rw [if_neg h4, if_neg hna]
          rw [e2]
          simp [L27_1, t3, t0, e1, hil, l0]
          refine goT_of hT ?_
          simp
def InvNs (H : Heap) (n1 n2 n3 : Int) (x : Value) (k : Nat) (t : Tm) (H1 : Heap) : Prop :=
  ∃ i : Nat, i + k = 3 ∧ t 0 = iv n1 ∧ t 1 = iv n2 ∧ t 2 = iv n3 ∧ t 3 = x ∧ t 17 = .agg #[iv n1, iv n2, iv n3] ∧ t 18 = iv i ∧ (0 < i → badN n1 = false) ∧ (1 < i → badN n2 = false) ∧ (2 < i → badN n3 = false) ∧ H1 = H
def LNewQ (H : Heap) (n1 n2 n3 : Int) (l : List (Int × Int)) (v : Value) (H' : Heap) : Prop :=
  if newC n1 n2 n3 l = 0 then ∃ p q hi x, v = .tuple #[ptr p, iv 0] ∧ H.next ≤ p ∧ LS H' H.next hi p q (l.map (·.1)) n1 n2 n3 ⟨[], [], [], l.map (fun r => zeroV r.1), 0⟩ x ∧ (∀ b, x.own H.next hi p b → H.next ≤ b)
  else v = .tuple #[.pointer none, iv (newC n1 n2 n3 l)]
theorem lnewG_T {H : Heap} (hw : H.WF) (n1 n2 n3 : Int) {x : Value} {l : List (Int × Int)} (hx : Twos H x l) (hl : l.length ≤ 100000) :
    ∃ v H', T Try.prog 6 [iv n1, iv n2, iv n3, x] H v H' ∧ LNewQ H n1 n2 n3 l v H' ∧ On H H' := by
  refine T_by hm light6 ?_
  have hnB := hw.next_ge
  simp [L6]
  refine loop_at (InvNs H n1 n2 n3 x) 3 ?_ ?_
  · exact ⟨0, rfl, by simp, by simp, by simp, by simp, by simp, by simp, by omega, by omega, by omega, rfl⟩
  · rintro k t H1 ⟨i, hik, t0, t1, t2, t3, t17, t18, z0, z1, z2, rfl⟩
    cases k with
    | zero =>
      have e0 : i = 3 := by omega
      subst e0
      have hbad : (badN n1 || badN n2 || badN n3) = false := by rw [z0 (by omega), z1 (by omega), z2 (by omega)]; rfl
      have hnc : newC n1 n2 n3 l = chkC l := by unfold newC; rw [hbad]; rfl
      obtain ⟨v, H2, hT, w2, b2, nx2, k2, hQ⟩ := new_T hw hx
      simp [L6_1, t18]
      refine goT_of (by rw [t3]; exact hT) ?_
      unfold NewQ at hQ
      split at hQ
      · rename_i h4
        have e : chkC l = 171 := by simp [chkC, h4]
        subst hQ
        simp
        refine ⟨?_, ⟨w2, b2, nx2, k2⟩⟩
        unfold LNewQ
        rw [hnc, e, if_neg (by decide)]
      · rename_i h4
        split at hQ
        · rename_i hall
          have e : chkC l = 0 := by unfold chkC; rw [if_neg h4, if_pos hall]
          obtain ⟨q, xp, xn, rfl, nw⟩ := hQ
          have hn2 := w2.next_ge
          obtain ⟨H3, hH3⟩ : ∃ H3, H3 = H2.new 71 7 [.slice none 0 0, .slice none 0 0, .slice none 0 0, ptr q, iv n1, iv n2, iv n3] := ⟨_, rfl⟩
          have w3 : H3.WF := by rw [hH3]; exact WF_new w2 _ _ _
          have b3 : H3.base = H2.base := by rw [hH3]; rfl
          have nx3 : H3.next = H2.next + 1 := by rw [hH3]; simp
          have k3 : ∀ b, b < H2.next → H3.blk b = H2.blk b := fun b hb => by rw [hH3]; simp [show b ≠ H2.next by omega]
          simp [t0, t1, t2]
          rw [← hH3]
          refine ⟨?_, ⟨w3, b3.trans b2, by omega, fun b hb => (k3 b (by omega)).trans (k2 b hb)⟩⟩
          unfold LNewQ
          rw [hnc, e, if_pos rfl]
          refine ⟨H2.next, q, H2.next, ⟨.slice none 0 0, .slice none 0 0, .slice none 0 0, xp, xn⟩, rfl, nx2, ⟨⟨by rw [B_eq b3]; exact hn2, by rw [hH3]; simp, Own.nil _ _ _, Own.nil _ _ _, by simp, by simp, by simp⟩, Own.nil _ _ _, nw.hp.frame b3 (fun b _ h => k3 b h), by simp, by simp, fun b h => (by cases h), .inr (Nat.le_refl _), fun b h => (by cases h), fun b h => (by cases h), fun b h => (by cases h), by omega⟩, ?_⟩
          rintro b (h | h | h | h | h)
          · omega
          · cases h
          · cases h
          · cases h
          · exact h.1
        · rename_i hall
          have e : chkC l = 140 := by unfold chkC; rw [if_neg h4, if_neg hall]
          subst hQ
          simp
          refine ⟨?_, ⟨w2, b2, nx2, k2⟩⟩
          unfold LNewQ
          rw [hnc, e, if_neg (by decide)]
    | succ k =>
      have hi : i < 3 := by omega
      have e3 : IntKind.i64.wrap ((i : Int) + 1) = ((i + 1 : Nat) : Int) := by rw [w64 _ (by omega)]; omega
      obtain ⟨i1, hi1⟩ : ∃ i1, i1 = i + 1 := ⟨_, rfl⟩
      rw [← hi1] at e3
      obtain ⟨n, hn⟩ : ∃ n, n = if i = 0 then n1 else if i = 1 then n2 else n3 := ⟨_, rfl⟩
      have hbn : badN n = true → newC n1 n2 n3 l = 161 := by
        intro h
        unfold newC
        rw [if_pos]
        rw [hn] at h
        split at h
        · simp [h]
        · split at h
          · simp [h]
          · simp [h]
      have stop : newC n1 n2 n3 l = 161 → LNewQ H1 n1 n2 n3 l (.tuple #[.pointer none, iv 161]) H1 := by
        intro h
        unfold LNewQ
        rw [h, if_neg (by decide)]
      have cont : badN n = false → ∀ t' : Tm, t' 0 = t 0 → t' 1 = t 1 → t' 2 = t 2 → t' 3 = t 3 → t' 17 = t 17 → t' 18 = iv i1 → ∃ m, m < k + 1 ∧ InvNs H1 n1 n2 n3 x m t' H1 := by
        intro hb t' g0 g1 g2 g3 g17 g18
        refine ⟨k, Nat.lt_succ_self k, i1, by omega, g0.trans t0, g1.trans t1, g2.trans t2, g3.trans t3, g17.trans t17, g18, ?_, ?_, ?_, rfl⟩
        · intro _
          by_cases e : i = 0
          · rw [hn, if_pos e] at hb; exact hb
          · exact z0 (by omega)
        · intro h
          by_cases e : i = 1
          · rw [hn, if_neg (by omega), if_pos e] at hb; exact hb
          · exact z1 (by omega)
        · intro h
          by_cases e : i = 2
          · rw [hn, if_neg (by omega), if_neg (by omega)] at hb; exact hb
          · exact z2 (by omega)
      have hcase : i = 0 ∨ i = 1 ∨ i = 2 := by omega
      rcases hcase with rfl | rfl | rfl
      · have hnn : n = n1 := by rw [hn]; rfl
        by_cases f1 : n1 < 1
        · have hb : badN n = true := by rw [hnn]; simp [badN, f1]
          simp [L6_1, t17, t18, f1]
          exact ⟨stop (hbn hb), ⟨hw, rfl, Nat.le_refl _, fun _ _ => rfl⟩⟩
        · by_cases f2 : 64 < n1
          · have hb : badN n = true := by rw [hnn]; simp [badN, f2]
            simp [L6_1, t17, t18, f1, f2]
            exact ⟨stop (hbn hb), ⟨hw, rfl, Nat.le_refl _, fun _ _ => rfl⟩⟩
          · have hb : badN n = false := by rw [hnn]; simp [badN, f1, f2]
            simp [L6_1, t17, t18, f1, f2]
            exact cont hb _ (by simp) (by simp) (by simp) (by simp) (by simp [t17]) (by simp [hi1])
      · have hnn : n = n2 := by rw [hn]; rfl
        by_cases f1 : n2 < 1
        · have hb : badN n = true := by rw [hnn]; simp [badN, f1]
          simp [L6_1, t17, t18, f1]
          exact ⟨stop (hbn hb), ⟨hw, rfl, Nat.le_refl _, fun _ _ => rfl⟩⟩
        · by_cases f2 : 64 < n2
          · have hb : badN n = true := by rw [hnn]; simp [badN, f2]
            simp [L6_1, t17, t18, f1, f2]
            exact ⟨stop (hbn hb), ⟨hw, rfl, Nat.le_refl _, fun _ _ => rfl⟩⟩
          · have hb : badN n = false := by rw [hnn]; simp [badN, f1, f2]
            simp [L6_1, t17, t18, f1, f2]
            exact cont hb _ (by simp) (by simp) (by simp) (by simp) (by simp [t17]) (by simp [hi1])
      · have hnn : n = n3 := by rw [hn]; rfl
        by_cases f1 : n3 < 1
        · have hb : badN n = true := by rw [hnn]; simp [badN, f1]
          simp [L6_1, t17, t18, f1]
          exact ⟨stop (hbn hb), ⟨hw, rfl, Nat.le_refl _, fun _ _ => rfl⟩⟩
        · by_cases f2 : 64 < n3
          · have hb : badN n = true := by rw [hnn]; simp [badN, f2]
            simp [L6_1, t17, t18, f1, f2]
            exact ⟨stop (hbn hb), ⟨hw, rfl, Nat.le_refl _, fun _ _ => rfl⟩⟩
          · have hb : badN n = false := by rw [hnn]; simp [badN, f1, f2]
            simp [L6_1, t17, t18, f1, f2]
            exact cont hb _ (by simp) (by simp) (by simp) (by simp) (by simp [t17]) (by simp [hi1])
end Go.Proofs.Ytjpdoflmjokplaa
namespace Go.Proofs.Ytjpdoflmjokplaa
open Go.Ot Go.RowKit
set_option linter.unusedSimpArgs false
set_option linter.unusedVariables false
/-- A row copied into an empty one, and one more. -/
theorem grow_row {H : Heap} (hw : H.WF) {ety sz n bytes : Nat} {cells row : List Value} {x : Value} (h0 : 0 < sz) (hsrc : ∀ H' : Heap, H'.base = H.base → (∀ b, b < H.next → H'.blk b = H.blk b) → srcCells H' sz x = some (n, cells)) (hcl : cells.length = n * sz) (hr : row.length = sz) (hb : (n + 1) * bytes ≤ 140737488355328) :
    ∃ y1 H2 y2 H3, sAppend (H.new ety sz []) ety sz bytes (.slice (some ⟨H.next, 0, none⟩) 0 0) x = some (y1, H2) ∧ H.next < H2.next ∧ On H H2 ∧ sAppend (H2.new ety sz row) ety sz bytes y1 (.slice (some ⟨H2.next, 0, none⟩) 1 0) = some (y2, H3) ∧ Row H H3 ety sz (n + 1) (cells ++ row) y2 := by
  have hnB := hw.next_ge
  obtain ⟨H1, hH1⟩ : ∃ H1, H1 = H.new ety sz [] := ⟨_, rfl⟩
  have row1 : Row H H1 ety sz 0 [] (.slice (some ⟨H.next, 0, none⟩) 0 0) := by
    refine ⟨Own.mk (by simp) ?_ ?_, ?_, ?_, ?_, ?_, ?_⟩
    · rw [hH1]; simpa using hnB
    · rw [hH1]; simp
    · rw [hH1]; exact WF_new hw _ _ _
    · rw [hH1]; simp
    · rw [hH1]; simp
    · intro b hb; simp at hb; omega
    · intro b hb
      rw [hH1]
      simp [show b ≠ H.next by omega]
  have n1 : H1.next = H.next + 1 := by rw [hH1]; simp
  have s1 := hsrc H1 row1.base row1.keep
  rw [← hH1]
  have step : ∃ y1 H2, sAppend H1 ety sz bytes (.slice (some ⟨H.next, 0, none⟩) 0 0) x = some (y1, H2) ∧ Row H H2 ety sz n cells y1 ∧ H.next < H2.next := by
    by_cases hn : n = 0
    · subst hn
      have hc : cells = [] := List.length_eq_zero_iff.1 (by simpa using hcl)
      subst hc
      exact ⟨_, H1, append_none s1 (.inl rfl), row1, by omega⟩
    · have hle : (0 + n) * bytes ≤ 140737488355328 := by
        rw [Nat.zero_add]
        refine Nat.le_trans (Nat.mul_le_mul_right _ (Nat.le_succ n)) hb
      refine ⟨_, _, append_any row1.own s1 hn hle, ?_, by simp; omega⟩
      refine ⟨?_, WF_new (WF_drop row1.wf _) _ _ _, by simp [row1.base], by simp [n1]; omega, fun b hb => by simp at hb; omega, fun b hb => ?_⟩
      · rw [Nat.zero_add, List.nil_append]
        exact Own.mk hcl (by simp [B_eq row1.base, n1]; omega) (by simp)
      · have m1 : b ≠ H1.next := by omega
        have m2 : ¬ H.next = b := by omega
        simp [m1, blk_drop, m2, row1.keep b hb]
  obtain ⟨y1, H2, ap1, row2, hlt⟩ := step
  have hn2 := row2.wf.next_ge
  have own3 : Own (H2.new ety sz row) ety sz n cells y1 := Own.new row2.wf row2.own _ _ _
  have src3 : srcCells (H2.new ety sz row) sz (.slice (some ⟨H2.next, 0, none⟩) 1 0) = some (1, row) := by
    rw [src_at (ety := ety) (cs := row) (by simpa using hn2) (by simp) (by simp [hr])]
    simp [← hr]
  refine ⟨y1, H2, _, _, ap1, hlt, ⟨row2.wf, row2.base, row2.next, row2.keep⟩, append_any own3 src3 (by decide) hb, ?_⟩
  refine ⟨Own.mk (by simp [hcl, hr, Nat.add_mul]) (by simp [B_eq row2.base]; omega) (by simp), WF_new (WF_drop (WF_new row2.wf _ _ _) _) _ _ _, by simp [row2.base], by simp; omega, fun b hb => by simp at hb; omega, fun b hb => ?_⟩
  have m1 : b ≠ H2.next + 1 := by omega
  have m2 : b ≠ H2.next := by omega
  have m3 : blkOf y1 ≠ some b := fun hy => by have := row2.new b hy; omega
  simp [m1, m2, blk_drop, m3, row2.keep b hb]
theorem On.xt {H G : Heap} (hw : H.WF) (o : On H G) : Xt H G := ⟨o.base, o.next, hw, o.wf, o.keep⟩
theorem Dv.on {H G G' : Heap} {cs rs : List Value} (D : Dv H G cs rs) (o : On G G') : Dv H G' cs rs :=
  ⟨D.X.trans (o.xt D.X.wf), D.v.keep o.base (o.keep _ (D.X.wf.lt D.v.bq)), D.r.keep o.base (o.keep _ (D.X.wf.lt D.r.bq))⟩
theorem Row.on {H H1 : Heap} {ety sz n : Nat} {cells : List Value} {y : Value} (r : Row H H1 ety sz n cells y) : On H H1 := ⟨r.wf, r.base, r.next, r.keep⟩
/-- The end of a call of the document: the log's variable gets a part, and is answered. -/
theorem Dv.part {H G : Heap} {d : DL} (D : Dv H G (dl d) z8) {ety sz n : Nat} {cells : List Value} {y : Value} {G2 : Heap} (r : Row G G2 ety sz n cells y) (j : Nat) (hj : j < 8) (d2 : DL) (hd : (dl d).set j y = dl d2) :
    ∃ G3 G4, sStore G2 1 (.pointer (some ⟨H.next, j, none⟩)) y = some G3 ∧ G3.loadN ⟨H.next, 0, none⟩ 0 8 = some (dl d2) ∧ sStore G3 8 (ptr (H.next + 1)) (dA d2) = some G4 ∧ G4.loadN ⟨H.next + 1, 0, none⟩ 0 8 = some (dl d2) ∧ Xt H G4 ∧ Own G4 ety sz n cells y ∧ (∀ b, blkOf y = some b → H.next ≤ b ∧ b < G4.next) := by
  have D2 := D.on r.on
  obtain ⟨G3, st, D3⟩ := D2.set j y (by simpa [dl] using hj)
  obtain ⟨G4, la, sa, lb, X4⟩ := D3.fin (by simp [dl]) rfl
  rw [hd] at la sa lb
  obtain ⟨a, hy⟩ := r.own.len
  have hG := D.X.next
  have hvn := D.X.wf.lt D.v.bq
  have hrn := D.X.wf.lt D.r.bq
  have yn : ∀ b, blkOf y = some b → G.next ≤ b := r.new
  have e3 : G3 = G2.put H.next ((dl d).set j y) := by
    have := D2.v.store j y (by simpa [dl] using hj)
    rw [this] at st
    exact (Option.some.inj st).symm
  have e4 : G4 = G3.put (H.next + 1) (dl d2) := by
    have := D3.r.storeA (m := 8) (by decide) (dl d2) rfl rfl
    rw [this] at sa
    exact (Option.some.inj sa).symm
  refine ⟨G3, G4, ?_, la, sa, lb, X4, ?_, ?_⟩
  · rw [hy] at st ⊢
    rw [sStore_slice]
    exact st
  · refine r.own.keep (B_eq (by rw [e4, e3]; rfl)) (fun b hb => ?_)
    have := yn b hb
    rw [e4, e3]
    simp [show b ≠ H.next + 1 by omega, show b ≠ H.next by omega]
  · intro b hb
    have h1 := yn b hb
    have h2 := r.own.lt r.wf hb
    refine ⟨by omega, ?_⟩
    rw [e4, e3]
    exact h2
theorem refEmit_T {H : Heap} (hw : H.WF) (d : DL) {os : List Int} (hx : Ints H .i64 d.xo os) (n : Int) (hl : os.length ≤ 1000) :
    ∃ v H', T Try.prog 34 [dA d, iv n] H v H' ∧ ∃ d2, v = .tuple #[dA d2, iv (emitC os d.mo)] ∧ Xt H H' ∧ Ints H' .i64 d2.xo (emitL os n d.mo) ∧ d2 = { d with xo := d2.xo } ∧ ∀ b, blkOf d2.xo = some b → blkOf d.xo = some b ∨ (H.next ≤ b ∧ b < H'.next) := by
  refine T_by hm light34 ?_
  have D := dv_new hw (dl d)
  obtain ⟨HD, hHD⟩ : ∃ HD, HD = (H.new 44 8 (dl d)).new 44 8 z8 := ⟨_, rfl⟩
  rw [← hHD] at D
  have hN : (H.new 44 8 (dl d)).new 44 8 [.int .i64 0, .int .i64 0, .int .i64 0, .slice none 0 0, .slice none 0 0, .slice none 0 0, .slice none 0 0, .slice none 0 0] = HD := hHD.symm
  have l6 : HD.load ⟨H.next, 6, none⟩ = some d.xo := D.v.load 6
  have l2 : HD.load ⟨H.next, 2, none⟩ = some (iv d.mo) := D.v.load 2
  obtain ⟨a, c, hxo⟩ := hx.len
  have hxD := D.X.ints hx
  by_cases hf : (os.length : Int) = d.mo
  · have hb : ((os.length : Int) == d.mo) = true := by simpa using hf
    have e1 : emitC os d.mo = 200 := by simp [emitC, hf]
    have e2 : emitL os n d.mo = os := by simp [emitL, hf]
    obtain ⟨G, la, sa, lb, X⟩ := D.fin (by simp [dl]) rfl
    rw [e1, e2]
    obtain ⟨d0, hd0⟩ : ∃ d0, d0 = dl d := ⟨_, rfl⟩
    rw [hxo] at l6
    rw [← hd0] at la sa lb
    have hda : dA d = .agg d0.toArray := by rw [hd0]
    rw [hda]
    rw [← hd0] at hN
    simp [L34, hN, l6, l2, hb, la, sa, lb]
    exact ⟨by rw [hd0]; rfl, d, hd0, X, X.ints hx, rfl, fun b hb => .inl hb⟩
  · have hb : ((os.length : Int) == d.mo) = false := by simpa using hf
    have e1 : emitC os d.mo = 0 := by simp [emitC, hf]
    have e2 : emitL os n d.mo = os ++ [n] := by simp [emitL, hf]
    obtain ⟨y1, H2, y2, H3, ap1, hlt, on2, ap2, row⟩ := grow_row (ety := 2) (sz := 1) (bytes := 8) (cells := os.map iv) (row := [iv n]) D.X.wf (by decide) (fun H' hb hk => (hxD.keep D.X.wf hb hk).src) (by simp) rfl (by omega)
    obtain ⟨G3, G4, st, la, sa, lb, X4, own4, yb⟩ := D.part row 6 (by decide) { d with xo := y2 } rfl
    have hz0 : zerosA [iv 0] 0 = [] := rfl
    have hz1 : zerosA [iv 0] 1 = [iv 0] := rfl
    have l6' : (HD.new 2 1 []).load ⟨H.next, 6, none⟩ = some d.xo := load_newN D.X.wf l6 _ _ _
    rw [e1, e2]
    obtain ⟨d2, hd2⟩ : ∃ d2 : DL, d2 = { d with xo := y2 } := ⟨_, rfl⟩
    rw [← hd2] at la sa lb
    obtain ⟨ds, hds⟩ : ∃ ds, ds = dl d2 := ⟨_, rfl⟩
    rw [← hds] at la lb
    have hda2 : dA d2 = .agg ds.toArray := by rw [hds]
    rw [hda2] at sa
    obtain ⟨d0, hd0⟩ : ∃ d0, d0 = dl d := ⟨_, rfl⟩
    have hda : dA d = .agg d0.toArray := by rw [hd0]
    rw [hda]
    rw [← hd0] at hN
    rw [hxo] at l6 l6' ap1
    have hnt : notTup y2 = true := by
      obtain ⟨a2, hy2⟩ := row.own.len
      rw [hy2]; rfl
    simp [L34, hN, l6, l2, hb, hz0, hz1, l6', ap1, ap2, st, hnt, la, sa, lb]
    refine ⟨by rw [hd0]; rfl, d2, hds, X4, ?_, by rw [hd2], ?_⟩
    · rw [hd2]
      have q1 : (os ++ [n]).map iv = os.map iv ++ [iv n] := by simp
      have : Own G4 2 1 (os ++ [n]).length ((os ++ [n]).map (.int .i64)) y2 := by
        have h1 : (os ++ [n]).length = os.length + 1 := by simp
        rw [h1]
        show Own G4 2 1 (os.length + 1) ((os ++ [n]).map iv) y2
        rw [q1]
        exact own4
      exact this.ints
    · rw [hd2]
      intro b hb
      exact .inr (yb b hb)
end Go.Proofs.Ytjpdoflmjokplaa
