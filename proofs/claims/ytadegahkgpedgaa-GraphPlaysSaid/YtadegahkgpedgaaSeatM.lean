/-
  Chapter 23: Fall, in any graph.
-/
import Derived.Test.YtadegahkgpedgaaSeatK
namespace Go.Proofs.Ytadegahkgpedgaa
open Go.Ot Go.RowKit
set_option linter.unusedSimpArgs false
set_option linter.unusedVariables false
theorem mem_rd {L : List Ed} {w a : Int} : a ∈ rd L w ↔ ∃ e ∈ L, e.2 = w ∧ e.1 = a := by
  unfold rd
  rw [List.mem_map]
  constructor
  · rintro ⟨e, he, rfl⟩
    rw [List.mem_filter] at he
    exact ⟨e, he.1, by simpa using he.2, rfl⟩
  · rintro ⟨e, he, h1, h2⟩
    exact ⟨e, List.mem_filter.2 ⟨he, by simpa using h1⟩, h2⟩
def InvP (H : Heap) (p q : Nat) (R : List Int) (r : Value) (done : List Int) (o : Value) (A0 : List Int) (k : Nat) (t : Tm) (H1 : Heap) : Prop :=
  ∃ i y A, i + k = R.length ∧ t 0 = ptr p ∧ t 1 = t 1 ∧ t 5 = ptr q ∧ t 6 = o ∧ t 41 = r ∧ t 42 = iv R.length ∧ t 43 = iv i ∧ FS H H1 q A y done o ∧ IsHeap A ∧ A.Perm (R.take i ++ A0) ∧ Ints H1 .i64 r R ∧
    ∀ b, blkOf r = some b → b < H1.next ∧ b ≠ q ∧ blkOf y ≠ some b
theorem push_all {H H1 : Heap} {p q : Nat} {R : List Int} {r : Value} {done A0 : List Int} {o y : Value} (hA : R.length + A0.length ≤ 80000) (hs : FS H H1 q A0 y done o) (hh : IsHeap A0) (hr : Ints H1 .i64 r R)
    (hrn : ∀ b, blkOf r = some b → b < H1.next ∧ b ≠ q ∧ blkOf y ≠ some b) {Q : Exit → Tm → Heap → Prop} {t : Tm}
    (t0 : t 0 = ptr p) (t5 : t 5 = ptr q) (t6 : t 6 = o) (t41 : t 41 = r) (t42 : t 42 = iv R.length) (t43 : t 43 = iv 0)
    (hQ : ∀ t1 y1 A1 H2, t1 0 = ptr p → t1 5 = ptr q → t1 6 = o → FS H H2 q A1 y1 done o → IsHeap A1 → A1.Perm (R ++ A0) → Q (.exit 2) t1 (rdy H2)) : wpA Try.prog (.loop L11_1) Q t (rdy H1) := by
  refine loop_at (InvP H p q R r done o A0) R.length ?_ ?_
  · exact ⟨0, y, A0, by omega, t0, rfl, t5, t6, t41, t42, t43, hs, hh, by simp, hr, hrn⟩
  · rintro k t1 H2 ⟨i, y2, A, hik, u0, _, u5, u6, u41, u42, u43, fs, ih, hp, hin, hbn⟩
    cases k with
    | zero =>
      have e1 : ¬ ((i : Int) < R.length) := by omega
      have e2 : i = R.length := by omega
      rw [e2, List.take_length] at hp
      have hq := fun (t9 : Tm) (h0 : t9 0 = t1 0) (h5 : t9 5 = t1 5) (h6 : t9 6 = t1 6) => hQ t9 y2 A H2 (h0.trans u0) (h5.trans u5) (h6.trans u6) fs ih hp
      simp [L11_1, u42, u43, e1]
      exact hq _ (by simp) (by simp) (by simp)
    | succ k =>
      have hil : i < R.length := by omega
      have e1 : ((i : Int) < R.length) := by omega
      obtain ⟨b, off, c, rfl, hld⟩ := hin.at hil
      have hAl := hp.length_eq
      rw [List.length_append, List.length_take] at hAl
      obtain ⟨u, H3, y3, A', hT, hr3, hp3, hh3, a3⟩ := hpush_T (v := R[i]) fs.wf fs.hr ih (by omega)
      have e4 : IntKind.i64.wrap ((i : Int) + 1) = ((i + 1 : Nat) : Int) := by rw [w64 _ (by omega)]; omega
      obtain ⟨iN, hiN⟩ : ∃ n : Nat, n = i + 1 := ⟨_, rfl⟩
      rw [← hiN] at e4
      have hb := hbn b rfl
      have hperm : A'.Perm (R.take iN ++ A0) := by
        rw [hiN, List.take_add_one, List.getElem?_eq_getElem hil]
        refine hp3.trans ((hp.cons _).trans ?_)
        simp only [Option.toList_some, List.append_assoc, List.singleton_append]
        exact List.perm_middle.symm
      simp [L11_1, u42, u43, u41, e1, hld, u5]
      refine goT_of hT ?_
      simp [u43, e4]
      refine ⟨k, by omega, iN, y3, A', by omega, by simp [u0], rfl, by simp [u5], by simp [u6], by simp [u41], by simp [u42], by simp, fs.heap hr3 a3, hh3, hperm, ?_, ?_⟩
      · exact hin.frame a3.base (fun b' hb' => by
          simp at hb'
          subst hb'
          exact a3.keep b hb.1 hb.2.1 hb.2.2)
      · intro b' hb'
        simp at hb'
        subst hb'
        refine ⟨Nat.lt_of_lt_of_le hb.1 a3.next, hb.2.1, fun hy => ?_⟩
        rcases a3.new b hy with h | h
        · exact hb.2.2 h
        · omega
structure FallV (L : List Ed) (age : Int) (f : List Int) : Prop where
  inc : f.Pairwise (· < ·)
  hd : f[0]? = some age
  closed : ∀ e ∈ L, e.2 ∈ f → e.1 ∈ f
  lean : ∀ x ∈ f, x = age ∨ ∃ e ∈ L, e.1 = x ∧ e.2 ∈ f
/-- Fall's work, half done. -/
structure Half (L : List Ed) (age : Int) (done A : List Int) : Prop where
  inc : done.Pairwise (· < ·)
  le : ∀ d ∈ done, ∀ a ∈ A, d ≤ a
  closed : ∀ e ∈ L, e.2 ∈ done → e.1 ∈ done ∨ e.1 ∈ A
  lean : ∀ x, x ∈ done ∨ x ∈ A → x = age ∨ ∃ e ∈ L, e.1 = x ∧ e.2 ∈ done
  hd : (done = [] ∧ A = [age]) ∨ done[0]? = some age
def left (L : List Ed) (done : List Int) : Nat := (L.filter fun e => !decide (e.2 ∈ done)).length
theorem Half.skip {L : List Ed} {age b : Int} {done A A' : List Int} (h : Half L age done A) (hp : (b :: A').Perm A) (hb : b ∈ done) : Half L age done A' where
  inc := h.inc
  le := fun d hd a ha => h.le d hd a (hp.mem_iff.1 (List.mem_cons_of_mem _ ha))
  closed := fun e he hw => by
    rcases h.closed e he hw with h1 | h1
    · exact .inl h1
    · rcases List.mem_cons.1 (hp.mem_iff.2 h1) with h2 | h2
      · left; rw [h2]; exact hb
      · exact .inr h2
  lean := fun x hx => h.lean x (hx.imp id fun ha => hp.mem_iff.1 (List.mem_cons_of_mem _ ha))
  hd := by
    rcases h.hd with ⟨h1, _⟩ | h1
    · rw [h1] at hb; cases hb
    · exact .inr h1
theorem Half.more {L : List Ed} {age b : Int} {done A A' A2 : List Int} (h : Half L age done A) (hV : ∀ e ∈ L, e.2 < e.1) (hp : (b :: A').Perm A) (hmin : ∀ a ∈ A, b ≤ a) (hlt : ∀ d ∈ done, d < b) (hp2 : A2.Perm (rd L b ++ A')) : Half L age (done ++ [b]) A2 where
  inc := by
    rw [List.pairwise_append]
    exact ⟨h.inc, List.pairwise_singleton _ _, fun d hd x hx => by rw [List.mem_singleton.1 hx]; exact hlt d hd⟩
  le := fun d hd a ha => by
    have ha2 := hp2.mem_iff.1 ha
    rcases List.mem_append.1 ha2 with h1 | h1
    · obtain ⟨e, he, rfl, rfl⟩ := mem_rd.1 h1
      have := hV e he
      rcases List.mem_append.1 hd with h2 | h2
      · have := hlt d h2; omega
      · rw [List.mem_singleton.1 h2]; omega
    · have hA := hp.mem_iff.1 (List.mem_cons_of_mem b h1)
      rcases List.mem_append.1 hd with h2 | h2
      · exact h.le d h2 a hA
      · rw [List.mem_singleton.1 h2]; exact hmin a hA
  closed := fun e he hw => by
    rcases List.mem_append.1 hw with h1 | h1
    · rcases h.closed e he h1 with h2 | h2
      · exact .inl (List.mem_append_left _ h2)
      · rcases List.mem_cons.1 (hp.mem_iff.2 h2) with h3 | h3
        · left; rw [h3]; simp
        · exact .inr (hp2.mem_iff.2 (List.mem_append_right _ h3))
    · right
      exact hp2.mem_iff.2 (List.mem_append_left _ (mem_rd.2 ⟨e, he, List.mem_singleton.1 h1, rfl⟩))
  lean := fun x hx => by
    have old : ∀ x, x ∈ done ∨ x ∈ A → x = age ∨ ∃ e ∈ L, e.1 = x ∧ e.2 ∈ done ++ [b] := fun x hx => by
      rcases h.lean x hx with h1 | ⟨e, he, h1, h2⟩
      · exact .inl h1
      · exact .inr ⟨e, he, h1, List.mem_append_left _ h2⟩
    rcases hx with hx | hx
    · rcases List.mem_append.1 hx with h1 | h1
      · exact old x (.inl h1)
      · refine old x (.inr (hp.mem_iff.1 ?_))
        rw [List.mem_singleton.1 h1]; simp
    · rcases List.mem_append.1 (hp2.mem_iff.1 hx) with h1 | h1
      · obtain ⟨e, he, h2, h3⟩ := mem_rd.1 h1
        exact .inr ⟨e, he, h3, by rw [h2]; simp⟩
      · exact old x (.inr (hp.mem_iff.1 (List.mem_cons_of_mem b h1)))
  hd := by
    right
    rcases h.hd with ⟨h1, h2⟩ | h1
    · rw [h1]
      rw [h2] at hp
      have := hp.length_eq
      have hA' : A' = [] := List.length_eq_zero_iff.1 (by simpa using this)
      rw [hA'] at hp
      have := List.perm_singleton.1 hp
      simp at this
      simp [this]
    · rw [List.getElem?_append_left]
      · exact h1
      · rcases done with - | ⟨_, _⟩
        · simp at h1
        · simp
theorem left_more {L : List Ed} {b : Int} {done : List Int} (hb : b ∉ done) : left L done = left L (done ++ [b]) + (rd L b).length := by
  unfold left rd
  rw [List.length_map]
  induction L with
  | nil => rfl
  | cons e L ih =>
    simp only [List.filter_cons]
    by_cases h1 : e.2 = b
    · subst h1
      simp [hb]
      simp at ih
      omega
    · by_cases h2 : e.2 ∈ done
      · simp [h1, h2]
        simpa using ih
      · simp [h1, h2]
        simp at ih
        omega
end Go.Proofs.Ytadegahkgpedgaa
