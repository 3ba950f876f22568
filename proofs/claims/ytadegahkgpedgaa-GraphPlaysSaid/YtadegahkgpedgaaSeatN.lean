/-
  Chapter 23: Fall's contract.
-/
import Derived.Test.YtadegahkgpedgaaSeatM
namespace Go.Proofs.Ytadegahkgpedgaa
open Go.Ot Go.RowKit
set_option linter.unusedSimpArgs false
set_option linter.unusedVariables false
def InvH (H : Heap) (p q : Nat) (L : List Ed) (age : Int) (k : Nat) (t : Tm) (H1 : Heap) : Prop :=
  ∃ done A y o, A.length + left L done = k ∧ k ≤ L.length + 1 ∧ done.length + k ≤ L.length + 1 ∧ t 0 = ptr p ∧ t 5 = ptr q ∧ t 6 = o ∧ FS H H1 q A y done o ∧ IsHeap A ∧ Half L age done A
theorem left_le (L : List Ed) (done : List Int) : left L done ≤ L.length := List.length_filter_le _ _
theorem min_all {A : List Int} (h : IsHeap A) : ∀ a ∈ A, g A 0 ≤ a := by
  intro a ha
  obtain ⟨i, hi, rfl⟩ := List.getElem_of_mem ha
  have := root_min h i hi
  rw [g_get hi] at this
  exact this
theorem fallG_T {H : Heap} (hw : H.WF) {p : Nat} {room : Int} {L : List Ed} {x : Value} (gr : GR H p room L x) (hf : ∀ e ∈ L, -9223372036854775808 ≤ e.1) (hV : ∀ e ∈ L, e.2 < e.1) (hL : L.length ≤ 10000) (age : Int) :
    ∃ o H', T Try.prog 11 [ptr p, iv age] H o H' ∧ ∃ f, Row H H' 3 1 f.length (f.map iv) o ∧ FallV L age f ∧ f.length ≤ L.length + 1 := by
  refine T_by hm light11 ?_
  have hnB := hw.next_ge
  have hz : zerosA [iv 0] 1 = [iv 0] := rfl
  obtain ⟨HS, hHS⟩ : ∃ HS, HS = H.new 3 1 [iv age] := ⟨_, rfl⟩
  have hwS : HS.WF := by rw [hHS]; exact WF_new hw _ _ _
  have nS : HS.next = H.next + 1 := by rw [hHS]; simp
  obtain ⟨HT, hHT⟩ : ∃ HT, HT = HS.new 61 1 [.slice (some ⟨H.next, 0, none⟩) 1 0] := ⟨_, rfl⟩
  have bT : HT.base = H.base := by rw [hHT, hHS]; simp
  have fs0 : FS H HT HS.next [age] (.slice (some ⟨H.next, 0, none⟩) 1 0) [] (.slice none 0 0) := by
    refine ⟨by rw [hHT]; exact WF_new hwS _ _ _, bT, by rw [hHT]; simp, by omega, ?_, ⟨by rw [B_eq bT]; omega, by rw [hHT]; simp, ?_, by simp; omega⟩, Own.nil _ _ _, ?_, fun b hb => (by cases hb)⟩
    · intro b hb
      rw [hHT, hHS]
      have m1 : b ≠ H.next + 1 := by omega
      have m2 : b ≠ H.next := by omega
      simp [m1, m2]
    · refine Own.mk (by simp) (by rw [B_eq bT]; omega) ?_
      rw [hHT, hHS]
      simp
    · intro b hb; simp at hb; omega
  obtain ⟨q, hq⟩ : ∃ q, q = HS.next := ⟨_, rfl⟩
  rw [← hq] at fs0
  simp [L11, hz, ← hHS, nS, ← hHT]
  rw [← nS, ← hq]
  have half0 : Half L age [] [age] := ⟨List.Pairwise.nil, fun d hd => (by cases hd), fun e _ hw => (by cases hw), fun x hx => by
    rcases hx with hx | hx
    · cases hx
    · exact .inl (List.mem_singleton.1 hx), .inl ⟨rfl, rfl⟩⟩
  have heap0 : IsHeap [age] := fun x hx hxn => by simp at hxn; omega
  have hl0 := left_le L []
  refine loop_at (InvH H p q L age) (1 + left L []) ?_ ?_
  · exact ⟨[], [age], _, .slice none 0 0, by simp, by omega, by simp; omega, by simp, by simp, by simp, fs0, heap0, half0⟩
  · rintro k t H1 ⟨done, A, y, o, hk, hkL, hdk, t0, t5, t6, fs, ih, half⟩
    have hlen := alen_T fs.hr
    have ldq := fs.hr.ld
    obtain ⟨ao, ho⟩ := fs.own.len
    by_cases hA : A = []
    · subst hA
      have hlen' : T Try.prog 24 [y] H1 (iv 0) H1 := hlen
      simp [L11_2, t5, ldq]
      refine goT_of hlen' ?_
      have fin : Row H H1 3 1 done.length (done.map iv) o := ⟨fs.own, fs.wf, fs.base, by have := fs.next; have := fs.qn; omega, fun b hb => (fs.on b hb).1, fs.keep⟩
      have hd1 : done[0]? = some age := by
        rcases half.hd with ⟨_, h⟩ | h
        · cases h
        · exact h
      have hcl : ∀ e ∈ L, e.2 ∈ done → e.1 ∈ done := by
        intro e he hw
        rcases half.closed e he hw with h | h
        · exact h
        · cases h
      have fv : FallV L age done := ⟨half.inc, hd1, hcl, fun x hx => half.lean x (.inl hx)⟩
      rw [ho] at t6 fin
      simp [t6]
      exact ⟨done, fin, fv, by omega⟩
    · have hpos : 0 < A.length := List.length_pos_iff.2 hA
      obtain ⟨H2, y2, A', hP, hr2, hp, hh2, a2⟩ := hpop_T fs.wf fs.hr ih hA (by omega)
      obtain ⟨b, hb⟩ : ∃ b, b = g A 0 := ⟨_, rfl⟩
      rw [← hb] at hP hp
      have hmin : ∀ a ∈ A, b ≤ a := by rw [hb]; exact min_all ih
      have hAl := hp.length_eq
      simp at hAl
      have fs2 := fs.heap hr2 a2
      by_cases hdup : b ∈ done
      · -- it has been put out already: it is the last one
        obtain ⟨n, hn⟩ : ∃ n, done.length = n + 1 := ⟨done.length - 1, by have := List.length_pos_of_mem hdup; omega⟩
        obtain ⟨bo, offo, co, hoo, hldo⟩ := fs2.own.ints.at (i := n) (by omega)
        have hlast : done[n]'(by omega) = b := by
          have h1 := half.le (done[n]'(by omega)) (List.getElem_mem _) b (hp.mem_iff.1 (by simp))
          obtain ⟨i, hi, he⟩ := List.getElem_of_mem hdup
          by_cases hin : i = n
          · subst hin; exact he
          · have := List.pairwise_iff_getElem.1 half.inc i n hi (by omega) (by omega)
            omega
        rw [hlast] at hldo
        rw [hn] at ho hoo
        obtain ⟨n1, hn1⟩ : ∃ n1, n1 = n + 1 := ⟨_, rfl⟩
        rw [← hn1] at ho hoo
        have c5 : IntKind.i64.wrap ((n1 : Int) - 1) = (n : Int) := by rw [w64 _ (by omega)]; omega
        have hidx : sIdx 1 (.slice ao n1 0) (iv n) = some (.pointer (some ⟨bo, offo + n, none⟩)) := by
          rw [← ho, hoo]
          have : n < n1 := by omega
          simp [sIdx, add_own, this]
        rw [ho] at t6
        simp [L11_2, t5, ldq]
        refine goT_of hlen ?_
        simp [t5, hpos]
        refine goT_of hP ?_
        simp [t6, show 0 < n1 by omega, c5, hidx, hldo]
        exact ⟨A'.length + left L done, by omega, done, A', y2, o, rfl, by omega, by omega, by simp [t0], by simp [t5], by simp [t6, ho], fs2, hh2, half.skip hp hdup⟩
      · have hlt : ∀ d ∈ done, d < b := by
          intro d hd
          have h1 := half.le d hd b (hp.mem_iff.1 (by simp))
          have h2 : d ≠ b := fun e => hdup (e ▸ hd)
          omega
        obtain ⟨HA, ap, fs3⟩ := fs2.out b (by omega)
        have g3 := gr.keep hw fs3.base fs3.keep
        obtain ⟨r, H4, hR, rowR⟩ := readers_T fs3.wf g3 b hf
        have fs4 := fs3.call rowR.wf rowR.base rowR.next rowR.keep
        have hlm := left_more (L := L) hdup
        have hints := rowR.own.ints
        obtain ⟨ar, hra⟩ := rowR.own.len
        have hrn : ∀ c, blkOf r = some c → c < H4.next ∧ c ≠ q ∧ blkOf y2 ≠ some c := by
          intro c hc
          have h1 := rowR.new c hc
          have h2 := fs3.next
          refine ⟨rowR.own.lt rowR.wf hc, by omega, fun hy => ?_⟩
          have := fs3.hr.own.lt fs3.wf hy
          omega
        obtain ⟨m, hm'⟩ : ∃ m, m = done.length + 1 := ⟨_, rfl⟩
        rw [← hm'] at ap fs4
        have cont : ∀ t1 : Tm, t1 0 = ptr p → t1 5 = ptr q → t1 6 = .slice (some ⟨H2.next + 1, 0, none⟩) m 0 → ∀ y5 A5 H5, FS H H5 q A5 y5 (done ++ [b]) (.slice (some ⟨H2.next + 1, 0, none⟩) m 0) → IsHeap A5 → A5.Perm (rd L b ++ A') → ∃ m, m < k ∧ InvH H p q L age m t1 (rdy H5) := by
          intro t1 u0 u5 u6 y5 A5 H5 fs5 ih5 hp5
          have h5 := hp5.length_eq
          rw [List.length_append] at h5
          exact ⟨A5.length + left L (done ++ [b]), by omega, done ++ [b], A5, y5, _, rfl, by omega, by simp; omega, u0, u5, u6, fs5, ih5, half.more hV hp hmin hlt hp5⟩
        have hsz : (rd L b).length + A'.length ≤ 80000 := by have := rd_len L b; omega
        by_cases hd0 : done = []
        · subst hd0
          rw [ho] at t6 ap
          simp [L11_2, t5, ldq]
          refine goT_of hlen ?_
          simp [t5, hpos]
          refine goT_of hP ?_
          simp [t6]
          simp at ap
          simp [hz, ap, t0]
          refine goT_of hR ?_
          simp [hra]
          rw [← hra]
          refine push_all (p := p) hsz fs4 hh2 hints hrn (by simp [t0]) (by simp [t5]) (by simp) (by simp) (by simp) (by simp) ?_
          intro t1 y5 A5 H5 u0 u5 u6 fs5 ih5 hp5
          simp
          exact cont t1 u0 u5 u6 y5 A5 H5 fs5 ih5 hp5
        · obtain ⟨n, hn⟩ : ∃ n, done.length = n + 1 := ⟨done.length - 1, by have := List.length_pos_iff.2 hd0; omega⟩
          obtain ⟨bo, offo, co, hoo, hldo⟩ := fs2.own.ints.at (i := n) (by omega)
          have hne : (done[n]'(by omega) == b) = false := by
            have := hlt (done[n]'(by omega)) (List.getElem_mem _)
            have h2 : ¬ done[n]'(by omega) = b := by omega
            simpa using h2
          rw [hn] at ho hoo
          obtain ⟨n1, hn1⟩ : ∃ n1, n1 = n + 1 := ⟨_, rfl⟩
          rw [← hn1] at ho hoo
          have c5 : IntKind.i64.wrap ((n1 : Int) - 1) = (n : Int) := by rw [w64 _ (by omega)]; omega
          have hidx : sIdx 1 (.slice ao n1 0) (iv n) = some (.pointer (some ⟨bo, offo + n, none⟩)) := by
            rw [← ho, hoo]
            have : n < n1 := by omega
            simp [sIdx, add_own, this]
          rw [ho] at t6 ap
          simp [L11_2, t5, ldq]
          refine goT_of hlen ?_
          simp [t5, hpos]
          refine goT_of hP ?_
          simp [t6, show 0 < n1 by omega, c5, hidx, hldo, hne]
          simp [hz, ap, t0]
          refine goT_of hR ?_
          simp [hra]
          rw [← hra]
          refine push_all (p := p) hsz fs4 hh2 hints hrn (by simp [t0]) (by simp [t5]) (by simp) (by simp) (by simp) (by simp) ?_
          intro t1 y5 A5 H5 u0 u5 u6 fs5 ih5 hp5
          simp
          exact cont t1 u0 u5 u6 y5 A5 H5 fs5 ih5 hp5
end Go.Proofs.Ytadegahkgpedgaa
