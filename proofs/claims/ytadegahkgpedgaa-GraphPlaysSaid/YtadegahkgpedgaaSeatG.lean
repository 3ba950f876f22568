/-
  Chapter 23: Fall along a chain.
-/
import Derived.Test.YtadegahkgpedgaaSeatF
namespace Go.Proofs.Ytadegahkgpedgaa
open Go.Ot Go.RowKit
set_option linter.unusedSimpArgs false
set_option linter.unusedVariables false
structure FS (H H1 : Heap) (q : Nat) (A : List Int) (y : Value) (done : List Int) (o : Value) : Prop where
  wf : H1.WF
  base : H1.base = H.base
  next : q < H1.next
  qn : H.next ≤ q
  keep : ∀ b, b < H.next → H1.blk b = H.blk b
  hr : HR H1 q A y
  own : Own H1 3 1 done.length (done.map iv) o
  yn : ∀ b, blkOf y = some b → H.next ≤ b
  on : ∀ b, blkOf o = some b → H.next ≤ b ∧ b ≠ q ∧ blkOf y ≠ some b
theorem FS.heap {H H1 H2 : Heap} {q : Nat} {A A' : List Int} {y y' : Value} {done : List Int} {o : Value} (h : FS H H1 q A y done o) (hr : HR H2 q A' y') (a : Aft H1 H2 q y y') : FS H H2 q A' y' done o where
  wf := a.wf
  base := a.base.trans h.base
  next := Nat.lt_of_lt_of_le h.next a.next
  qn := h.qn
  keep := fun b hb => by
    have h1 := h.qn
    have h2 := h.next
    rw [a.keep b (by omega) (by omega) (fun hy => by have := h.yn b hy; omega), h.keep b hb]
  hr := hr
  own := h.own.keep (B_eq a.base) (fun b hb => by
    obtain ⟨h1, h2, h3⟩ := h.on b hb
    exact a.keep b (h.own.lt h.wf hb) h2 h3)
  yn := fun b hb => by
    have h1 := h.qn
    have h2 := h.next
    rcases a.new b hb with h3 | h3
    · exact h.yn b h3
    · omega
  on := fun b hb => by
    obtain ⟨h1, h2, h3⟩ := h.on b hb
    refine ⟨h1, h2, fun hy => ?_⟩
    rcases a.new b hy with h4 | h4
    · exact h3 h4
    · have := h.own.lt h.wf hb; omega
theorem FS.call {H H1 H2 : Heap} {q : Nat} {A : List Int} {y : Value} {done : List Int} {o : Value} (h : FS H H1 q A y done o) (w : H2.WF) (b : H2.base = H1.base) (n : H1.next ≤ H2.next) (k : ∀ b, b < H1.next → H2.blk b = H1.blk b) : FS H H2 q A y done o where
  wf := w
  base := b.trans h.base
  next := Nat.lt_of_lt_of_le h.next n
  qn := h.qn
  keep := fun c hc => by
    have h1 := h.qn
    have h2 := h.next
    rw [k c (by omega), h.keep c hc]
  hr := ⟨by rw [B_eq b]; exact h.hr.hq, by rw [k q h.next]; exact h.hr.bq, h.hr.own.keep (B_eq b) (fun c hc => k c (h.hr.own.lt h.wf hc)), h.hr.qy⟩
  own := h.own.keep (B_eq b) (fun c hc => k c (h.own.lt h.wf hc))
  yn := h.yn
  on := h.on
theorem FS.out {H H1 : Heap} {q : Nat} {A : List Int} {y : Value} {done : List Int} {o : Value} (h : FS H H1 q A y done o) (v : Int) (hl : done.length < 100000) :
    ∃ HA, sAppend (H1.new 3 1 [iv v]) 3 1 8 o (.slice (some ⟨H1.next, 0, none⟩) 1 0) = some (.slice (some ⟨H1.next + 1, 0, none⟩) (done.length + 1) 0, HA) ∧ FS H HA q A y (done ++ [v]) (.slice (some ⟨H1.next + 1, 0, none⟩) (done.length + 1) 0) := by
  have hn1 := h.wf.next_ge
  have hq := h.next
  obtain ⟨HS, hHS⟩ : ∃ HS, HS = H1.new 3 1 [iv v] := ⟨_, rfl⟩
  have hwS : HS.WF := by rw [hHS]; exact WF_new h.wf _ _ _
  have nS : HS.next = H1.next + 1 := by rw [hHS]; simp
  have ownS : Own HS 3 1 done.length (done.map iv) o := by rw [hHS]; exact h.own.new h.wf _ _ _
  have src : srcCells HS 1 (.slice (some ⟨H1.next, 0, none⟩) 1 0) = some (1, [iv v]) := by
    rw [hHS, src_at (ety := 3) (cs := [iv v]) (by simpa using hn1) (by simp) (by simp)]
    simp
  have ap := append_any (bytes := 8) ownS src (by decide) (by omega)
  obtain ⟨HA, hHA⟩ : ∃ HA, HA = (HS.drop o).new 3 1 (done.map iv ++ [iv v]) := ⟨_, rfl⟩
  rw [← hHA, nS] at ap
  rw [← hHS]
  have bA : HA.base = H1.base := by rw [hHA, hHS]; simp
  have kA : ∀ b, b < H1.next → blkOf o ≠ some b → HA.blk b = H1.blk b := by
    intro b hb ho
    rw [hHA, hHS]
    have m1 : b ≠ H1.next + 1 := by omega
    have m2 : b ≠ H1.next := by omega
    simp [m1, m2, blk_drop, ho]
  have oq : blkOf o ≠ some q := fun hb => (h.on q hb).2.1 rfl
  refine ⟨HA, ap, ⟨?_, bA.trans h.base, ?_, h.qn, ?_, ⟨?_, ?_, ?_, h.hr.qy⟩, ?_, h.yn, ?_⟩⟩
  · rw [hHA]; exact WF_new (WF_drop hwS _) _ _ _
  · rw [hHA]; simp [nS]; omega
  · intro b hb
    have h1 := h.qn
    rw [kA b (by omega) (fun ho => by have := (h.on b ho).1; omega), h.keep b hb]
  · rw [B_eq bA]; exact h.hr.hq
  · rw [kA q hq oq]; exact h.hr.bq
  · exact h.hr.own.keep (B_eq bA) (fun b hb => kA b (h.hr.own.lt h.wf hb) (fun ho => (h.on b ho).2.2 hb))
  · have e1 : (done ++ [v]).length = done.length + 1 := by simp
    have e2 : (done ++ [v]).map iv = done.map iv ++ [iv v] := by simp
    rw [e1, e2]
    exact Own.mk (by simp) (by rw [B_eq bA]; omega) (by rw [hHA]; simp [nS])
  · intro b hb
    simp at hb
    have h1 := h.qn
    refine ⟨by omega, by omega, fun hy => ?_⟩
    have := h.hr.own.lt h.wf hy
    omega
def InvI (H : Heap) (p q : Nat) (R : List Int) (r : Value) (done : List Int) (o : Value) (k : Nat) (t : Tm) (H1 : Heap) : Prop :=
  ∃ i y, i + k = R.length ∧ t 0 = ptr p ∧ t 5 = ptr q ∧ t 6 = o ∧ t 41 = r ∧ t 42 = iv R.length ∧ t 43 = iv i ∧ FS H H1 q (R.take i) y done o ∧ (i = 0 → Ints H1 .i64 r R)
theorem push_loop {H H1 : Heap} {p q : Nat} {R : List Int} {r : Value} {done : List Int} {o y : Value} (hR : R.length ≤ 1) (hs : FS H H1 q [] y done o) (hr : Ints H1 .i64 r R) {Q : Exit → Tm → Heap → Prop} {t : Tm}
    (t0 : t 0 = ptr p) (t5 : t 5 = ptr q) (t6 : t 6 = o) (t41 : t 41 = r) (t42 : t 42 = iv R.length) (t43 : t 43 = iv 0)
    (hQ : ∀ t1 y1 H2, t1 0 = ptr p → t1 5 = ptr q → t1 6 = o → FS H H2 q R y1 done o → Q (.exit 2) t1 (rdy H2)) : wpA Try.prog (.loop L11_1) Q t (rdy H1) := by
  refine loop_at (InvI H p q R r done o) R.length ?_ ?_
  · exact ⟨0, y, by omega, t0, t5, t6, t41, t42, t43, by simpa using hs, fun _ => hr⟩
  · rintro k t1 H2 ⟨i, y2, hik, u0, u5, u6, u41, u42, u43, fs, hin⟩
    cases k with
    | zero =>
      have e1 : ¬ ((i : Int) < R.length) := by omega
      have e2 : i = R.length := by omega
      rw [e2, List.take_length] at fs
      have hq := fun (t9 : Tm) (h0 : t9 0 = t1 0) (h5 : t9 5 = t1 5) (h6 : t9 6 = t1 6) => hQ t9 y2 H2 (h0.trans u0) (h5.trans u5) (h6.trans u6) fs
      simp [L11_1, u42, u43, e1]
      exact hq _ (by simp) (by simp) (by simp)
    | succ k =>
      have hi0 : i = 0 := by omega
      subst hi0
      obtain ⟨v, rfl⟩ : ∃ v, R = [v] := by
        match R, hR, hik with
        | [v], _, _ => exact ⟨v, rfl⟩
        | [], _, h => simp at h
      have hk : k = 0 := by simp at hik; exact hik
      subst hk
      obtain ⟨b, off, c, rfl, hld⟩ := (hin rfl).at (i := 0) (by simp)
      simp at hld
      simp at fs
      obtain ⟨u, H3, y3, hT, hr3, a3⟩ := push_T (v := v) fs.wf fs.hr
      have c1 : IntKind.i64.wrap (0 + 1) = 1 := rfl
      simp at u41 u42 u43
      simp [L11_1, u42, u43, u41, hld, u5]
      refine goT_of hT ?_
      simp [u43]
      exact ⟨1, y3, rfl, by simp [u0], by simp [u5], by simp [u6], by simp [u41], by simp [u42], by simp, fs.heap hr3 a3, fun h => absurd h (by omega)⟩
/-- A chain of ages, each leaned on by the next one alone. -/
structure Chain (L : List Ed) (c : List Int) : Prop where
  nxt : ∀ i (h : i < c.length), rd L c[i] = (c.drop (i + 1)).take 1
  inc : ∀ i (h : i + 1 < c.length), c[i] ≠ c[i + 1]
def InvC (H : Heap) (p q : Nat) (c : List Int) (k : Nat) (t : Tm) (H1 : Heap) : Prop :=
  ∃ i y o, i + k = c.length ∧ t 0 = ptr p ∧ t 5 = ptr q ∧ t 6 = o ∧ FS H H1 q ((c.drop i).take 1) y (c.take i) o
theorem fall_T {H : Heap} (hw : H.WF) {p : Nat} {room : Int} {L : List Ed} {x : Value} (g : GR H p room L x) (hf : ∀ e ∈ L, -9223372036854775808 ≤ e.1) {c : List Int} {a0 : Int} (hc : Chain L c) (h0 : c[0]? = some a0) (hcl : c.length ≤ 90000) :
    ∃ o H', T Try.prog 11 [ptr p, iv a0] H o H' ∧ Row H H' 3 1 c.length (c.map iv) o := by
  refine T_by hm light11 ?_
  have hnB := hw.next_ge
  have hz : zerosA [iv 0] 1 = [iv 0] := rfl
  obtain ⟨HS, hHS⟩ : ∃ HS, HS = H.new 3 1 [iv a0] := ⟨_, rfl⟩
  have hwS : HS.WF := by rw [hHS]; exact WF_new hw _ _ _
  have nS : HS.next = H.next + 1 := by rw [hHS]; simp
  obtain ⟨HT, hHT⟩ : ∃ HT, HT = HS.new 61 1 [.slice (some ⟨H.next, 0, none⟩) 1 0] := ⟨_, rfl⟩
  have bT : HT.base = H.base := by rw [hHT, hHS]; simp
  have hcpos : 0 < c.length := by
    rcases c with - | ⟨_, _⟩
    · simp at h0
    · simp
  have hd0 : c.take 1 = [a0] := by
    rcases c with - | ⟨b, c'⟩
    · simp at h0
    · simp at h0; simp [h0]
  have fs0 : FS H HT HS.next [a0] (.slice (some ⟨H.next, 0, none⟩) 1 0) [] (.slice none 0 0) := by
    refine ⟨by rw [hHT]; exact WF_new hwS _ _ _, bT, by rw [hHT]; simp, by omega, ?_, ⟨by rw [B_eq bT]; omega, by rw [hHT]; simp, ?_, by simp; omega⟩, Own.nil _ _ _, ?_, fun b hb => (by cases hb)⟩
    · intro b hb
      rw [hHT, hHS]
      have m1 : b ≠ H.next + 1 := by omega
      have m2 : b ≠ H.next := by omega
      simp [m1, m2]
    · refine Own.mk (by simp) (by rw [B_eq bT]; omega) ?_
      rw [hHT, hHS]
      simp
    · intro b hb; simp at hb; omega
  obtain ⟨q, hq⟩ : ∃ q, q = HS.next := ⟨_, rfl⟩
  rw [← hq] at fs0
  simp [L11, hz, ← hHS, nS, ← hHT]
  rw [← nS, ← hq]
  refine loop_at (InvC H p q c) c.length ?_ ?_
  · exact ⟨0, _, .slice none 0 0, by omega, by simp, by simp, by simp, by simpa [hd0] using fs0⟩
  · rintro k t H1 ⟨i, y, o, hik, t0, t5, t6, fs⟩
    have hlen := alen_T fs.hr
    have ldq := fs.hr.ld
    cases k with
    | zero =>
      have e2 : i = c.length := by omega
      rw [e2, List.take_length, List.drop_length, List.take_nil] at fs
      rw [e2, List.drop_length, List.take_nil] at hlen
      simp [L11_2, t5, ldq]
      refine goT_of hlen ?_
      obtain ⟨a2, ho⟩ := fs.own.len
      have fin : Row H H1 3 1 c.length (c.map iv) o := ⟨fs.own, fs.wf, fs.base, by have := fs.next; have := fs.qn; omega, fun b hb => (fs.on b hb).1, fs.keep⟩
      rw [ho] at t6 fin
      simp [t6]
      exact fin
    | succ k =>
      have hil : i < c.length := by omega
      obtain ⟨b, hb⟩ : ∃ b, b = c[i] := ⟨_, rfl⟩
      have hdr : (c.drop i).take 1 = [b] := by
        rw [List.drop_eq_getElem_cons hil, hb]; rfl
      rw [hdr] at fs hlen
      have hlen' : T Try.prog 24 [y] H1 (iv 1) H1 := hlen
      obtain ⟨H2, y2, hP, hr2, a2⟩ := pop_T fs.wf fs.hr
      have fs2 := fs.heap hr2 a2
      have hdl : (c.take i).length = i := by simp; omega
      obtain ⟨HA, ap, fs3⟩ := fs2.out b (by rw [hdl]; omega)
      rw [hdl] at ap fs3
      have htk : c.take i ++ [b] = c.take (i + 1) := by rw [List.take_add_one, List.getElem?_eq_getElem hil, hb]; rfl
      rw [htk] at fs3
      have g3 := g.keep hw fs3.base fs3.keep
      obtain ⟨r, H4, hR, rowR⟩ := readers_T fs3.wf g3 b hf
      have fs4 := fs3.call rowR.wf rowR.base rowR.next rowR.keep
      have hnx := hc.nxt i hil
      rw [← hb] at hnx
      have hRl : (rd L b).length ≤ 1 := by rw [hnx]; simp; omega
      have hints := rowR.own.ints
      obtain ⟨ar, hra⟩ := rowR.own.len
      have cont : ∀ t1 : Tm, t1 0 = ptr p → t1 5 = ptr q → t1 6 = .slice (some ⟨H2.next + 1, 0, none⟩) (i + 1) 0 → ∀ y5 H5, FS H H5 q (rd L b) y5 (c.take (i + 1)) (.slice (some ⟨H2.next + 1, 0, none⟩) (i + 1) 0) → ∃ m, m < k + 1 ∧ InvC H p q c m t1 (rdy H5) := by
        intro t1 u0 u5 u6 y5 H5 fs5
        rw [hnx] at fs5
        exact ⟨k, by omega, i + 1, y5, _, by omega, u0, u5, u6, fs5⟩
      obtain ⟨a3, ho⟩ := fs2.own.len
      rw [hdl] at ho
      obtain ⟨iN, hiN⟩ : ∃ n : Nat, n = i + 1 := ⟨_, rfl⟩
      rw [← hiN] at ap cont fs4
      simp [L11_2, t5, ldq]
      refine goT_of hlen' ?_
      simp [t5]
      refine goT_of hP ?_
      have body : ∀ t1 : Tm, t1 0 = ptr p → t1 5 = ptr q → t1 6 = o → t1 7 = iv b → True := fun _ _ _ _ _ => trivial
      by_cases hi0 : i = 0
      · subst hi0
        rw [ho] at t6 ap
        simp [t6]
        simp [hz, ap, t0]
        refine goT_of hR ?_
        simp [hra]
        rw [← hra]
        refine push_loop (p := p) hRl fs4 hints (by simp [t0]) (by simp [t5]) (by simp) (by simp) (by simp) (by simp) ?_
        intro t1 y5 H5 u0 u5 u6 fs5
        simp
        exact cont t1 u0 u5 u6 y5 H5 fs5
      · obtain ⟨j, rfl⟩ : ∃ j, i = j + 1 := ⟨i - 1, by omega⟩
        have hoints := fs2.own.ints
        rw [ho] at hoints t6 ap
        obtain ⟨b9, off9, c9, ho9, hld9⟩ := hoints.at (i := j) (by rw [hdl]; omega)
        rw [hdl] at ho9
        have hne := hc.inc j hil
        rw [← hb] at hne
        have hpos : (0 : Int) < ((j + 1 : Nat) : Int) := by omega
        have c5 : IntKind.i64.wrap (((j + 1 : Nat) : Int) - 1) = (j : Int) := by rw [w64 _ (by omega)]; omega
        have hel : (c.take (j + 1))[j]'(by rw [hdl]; omega) = c[j] := by rw [List.getElem_take]
        rw [hel] at hld9
        have hbne : (c[j] == b) = false := by simpa using hne
        obtain ⟨j1, hj1⟩ : ∃ j1, j1 = j + 1 := ⟨_, rfl⟩
        rw [← hj1] at t6 ap hpos c5 ho9
        have hidx : sIdx 1 (.slice a3 j1 0) (iv j) = some (.pointer (some ⟨b9, off9 + j, none⟩)) := by
          rw [ho9]
          have : j < j1 := by omega
          simp [sIdx, add_own, this]
        simp [t6, show 0 < j1 by omega, c5, hidx, hld9, hbne]
        simp [hz, ap, t0]
        refine goT_of hR ?_
        simp [hra]
        rw [← hra]
        refine push_loop (p := p) hRl fs4 hints (by simp [t0]) (by simp [t5]) (by simp) (by simp) (by simp) (by simp) ?_
        intro t1 y5 H5 u0 u5 u6 fs5
        simp
        exact cont t1 u0 u5 u6 y5 H5 fs5
end Go.Proofs.Ytadegahkgpedgaa
