/-
  Chapter 21: Ages: those that have versions, rising.
-/
import Derived.Test.YthclcdboialfnaaSeatK
import Derived.Test.YthclcdboialfnaaSeatLC
import Derived.Test.YthclcdboialfnaaSeatLD
import Derived.Test.YthclcdboialfnaaOtSo
namespace Go.Proofs.Ythclcdboialfnaa
open Go.Ot Go.RowKit
set_option linter.unusedSimpArgs false
set_option linter.unusedVariables false
def gotTup : Option (Value × CH) → Bool
  | some (.tuple a, _) => a.size == 0
  | _ => false
theorem ints_nil (H : Heap) : T Try.prog 39 [.slice none 0 0] H (.tuple #[]) H := by
  cases h : runF Try.prog tab [] 1000 50 39 [.slice none 0 0] CH.empty with
  | none => exact absurd (show gotTup (runF Try.prog tab [] 1000 50 39 [.slice none 0 0] CH.empty) = true by kernel_rfl) (by rw [h]; simp [gotTup])
  | some p =>
    obtain ⟨v, h'⟩ := p
    have hr : gotTup (runF Try.prog tab [] 1000 50 39 [.slice none 0 0] CH.empty) = true := by kernel_rfl
    rw [h] at hr
    have hv : v = .tuple #[] := by
      cases v <;> first | (simp [gotTup] at hr; done) | skip
      rename_i a
      simp only [gotTup, beq_iff_eq] at hr
      rw [Array.eq_empty_of_size_eq_zero hr]
    subst hv
    exact T_closed (runF_sound hm tabOk (specNil _) 50 39 [.slice none 0 0] CH.empty _ _ h) (by simp [plain3, plain2, plain1, plain0]) rfl H
theorem ints_T {H : Heap} {b c ety : Nat} {zs : List Int} {rest : List Value} (hB : ¬ b < H.B) (hk : H.blk b = some ⟨ety, 1, zs.map iv ++ rest⟩) (hl0 : 0 < zs.length) (hl : zs.length < 4611686018427387904) :
    T Try.prog 39 [.slice (some ⟨b, 0, none⟩) zs.length c] H (.tuple #[]) (H.put b ((zs.mergeSort fun x y => decide (x ≤ y)).map iv ++ rest)) := T_sortInts lays191 hB hk hl0 hl

theorem manyF_pos {f : Nat → Int → Option Int} {g : Int} {W : Nat} : manyF f g W ≠ 0 ↔ ∃ a, a < W ∧ (f a g).isSome = true := by
  unfold manyF
  constructor
  · intro h
    cases hl : (List.range W).filter fun b => (f b g).isSome with
    | nil => exact absurd (by rw [hl]; rfl) h
    | cons a l =>
      have ha : a ∈ (List.range W).filter fun b => (f b g).isSome := by rw [hl]; simp
      rw [List.mem_filter, List.mem_range] at ha
      exact ⟨a, ha.1, ha.2⟩
  · rintro ⟨a, h1, h2⟩ e
    have : a ∈ (List.range W).filter fun b => (f b g).isSome := by rw [List.mem_filter, List.mem_range]; exact ⟨h1, h2⟩
    rw [List.length_eq_zero_iff.1 e] at this
    cases this
/-- There are no more ages than places. -/
theorem ages_le {D : SD} {W R : Nat} (pl : PL D W R) {ks : List Int} (hn : ks.Nodup) (hk : ∀ k ∈ ks, D.mc k ≠ 0) : ks.length ≤ R := by
  obtain ⟨own, ho⟩ := pl.own
  have slot : ∀ k ∈ ks, ∃ s : Nat, s < R ∧ ∃ a, own s = some (a, k) := by
    intro k hkk
    have h1 := hk k hkk
    rw [pl.mcq] at h1
    obtain ⟨a, ha, hs⟩ := manyF_pos.1 (fun e => h1 (by rw [e]; rfl))
    obtain ⟨v, hv⟩ := Option.isSome_iff_exists.1 hs
    obtain ⟨hc, q, hq, e, _⟩ := (cont_iff pl.toPK).1 hv
    have := ho a hc q hq
    exact ⟨q.2.toNat, by omega, a, by rw [this.2.2.2, e]⟩
  have fn : ∃ f : Int → Nat, ∀ k ∈ ks, f k < R ∧ ∃ a, own (f k) = some (a, k) := by
    refine ⟨fun k => if h : k ∈ ks then (slot k h).choose else 0, fun k hkk => ?_⟩
    simp only [dif_pos hkk]
    exact (slot k hkk).choose_spec
  obtain ⟨f, hf⟩ := fn
  have := nodup_len R (ks.map fun k => ((f k : Nat) : Int)) (by
    refine List.pairwise_map.2 (hn.imp_of_mem ?_)
    intro a b ha hb hab e
    have e' : f a = f b := by omega
    obtain ⟨_, x, hx⟩ := hf a ha
    obtain ⟨_, y, hy⟩ := hf b hb
    rw [e', hy] at hx
    simp only [Option.some.injEq, Prod.mk.injEq] at hx
    exact hab hx.2.symm) (fun s hs => by
    obtain ⟨k, hkk, rfl⟩ := List.mem_map.1 hs
    have := (hf k hkk).1
    omega)
  simpa using this
/-- Behind some steps through the map. -/
structure Seen (es : List MEnt) (seen : List Nat) (ks : List Int) : Prop where
  len : seen.length = ks.length
  nd : ks.Nodup
  ent : ∀ i (h : i < seen.length) (h' : i < ks.length), ∃ e ∈ es, e.born = seen[i] ∧ e.key = iv ks[i]
theorem Seen.key {es : List MEnt} {mc : Int → Int} {c : Nat} (hm : MapW es mc c) {seen : List Nat} {ks : List Int} (h : Seen es seen ks) {e : MEnt} (he : e ∈ es) {k : Int} (hk : e.key = iv k) : e.born ∈ seen ↔ k ∈ ks := by
  have uniq : ∀ {a b : MEnt}, a ∈ es → b ∈ es → (a.born = b.born ↔ a.key = b.key) := by
    intro a b ha hb
    obtain ⟨i, hi, rfl⟩ := List.mem_iff_getElem.1 ha
    obtain ⟨j, hj, rfl⟩ := List.mem_iff_getElem.1 hb
    by_cases e : i = j
    · subst e; simp
    · have h1 : es[i].born ≠ es[j].born := by
        rcases Nat.lt_or_gt_of_ne e with hl | hl
        · exact List.pairwise_iff_getElem.1 hm.bn i j hi hj hl
        · exact fun e => List.pairwise_iff_getElem.1 hm.bn j i hj hi hl e.symm
      have h2 : es[i].key ≠ es[j].key := by
        rcases Nat.lt_or_gt_of_ne e with hl | hl
        · exact List.pairwise_iff_getElem.1 hm.nd i j hi hj hl
        · exact fun e => List.pairwise_iff_getElem.1 hm.nd j i hj hi hl e.symm
      exact ⟨fun e => absurd e h1, fun e => absurd e h2⟩
  constructor
  · intro hb
    obtain ⟨i, hi, hi2⟩ := List.mem_iff_getElem.1 hb
    have hi' : i < ks.length := by rw [← h.len]; exact hi
    obtain ⟨e', he', h1, h2⟩ := h.ent i hi hi'
    have := (uniq he he').1 (by rw [h1, hi2])
    rw [hk, h2] at this
    cases this
    exact List.getElem_mem hi'
  · intro hb
    obtain ⟨i, hi', rfl⟩ := List.mem_iff_getElem.1 hb
    have hi : i < seen.length := by rw [h.len]; exact hi'
    obtain ⟨e', he', h1, h2⟩ := h.ent i hi hi'
    have := (uniq he he').2 (by rw [hk, h2])
    rw [this, h1]
    exact List.getElem_mem hi
theorem Seen.push {es : List MEnt} {mc : Int → Int} {c : Nat} (hm : MapW es mc c) {seen : List Nat} {ks : List Int} (h : Seen es seen ks) {e : MEnt} (he : e ∈ es) {k : Int} (hk : e.key = iv k) (hb : e.born ∉ seen) : Seen es (seen ++ [e.born]) (ks ++ [k]) := by
  refine ⟨by simp [h.len], ?_, fun i h1 h2 => ?_⟩
  · refine List.nodup_append.2 ⟨h.nd, by simp, fun x hx y hy exy => ?_⟩
    rw [List.mem_singleton] at hy
    subst hy; subst exy
    exact hb ((h.key hm he hk).2 hx)
  · simp only [List.length_append, List.length_singleton] at h1 h2
    by_cases hi : i < seen.length
    · rw [List.getElem_append_left hi, List.getElem_append_left (by rw [← h.len]; exact hi)]
      exact h.ent i hi (by rw [← h.len]; exact hi)
    · have e1 : i = seen.length := by omega
      subst e1
      refine ⟨e, he, ?_, ?_⟩
      · simp
      · rw [hk]
        congr 1
        rw [List.getElem_append_right (by rw [h.len]; exact Nat.le_refl _)]
        simp
theorem find_by {es : List MEnt} (hb : es.Pairwise fun a b => a.born ≠ b.born) {e : MEnt} (he : e ∈ es) : es.find? (fun x => x.born == e.born) = some e := by
  induction es with
  | nil => cases he
  | cons a l ih =>
    obtain ⟨h1, h2⟩ := List.pairwise_cons.1 hb
    rw [List.find?_cons]
    rcases List.mem_cons.1 he with rfl | he
    · simp
    · have : (a.born == e.born) = false := by simpa using h1 e he
      rw [this]
      exact ih h2 he
def InvAg (H : Heap) (p : Nat) (mb : Nat) (c : Nat) (es : List MEnt) (k : Nat) (t : Tm) (H1 : Heap) : Prop :=
  ∃ seen ks y, (Itr.left ⟨some mb, c, seen, c⟩ es).length ≤ k ∧ t 0 = ptr p ∧ t 3 = y ∧ t 9 = ptr H.next ∧ On H H1 ∧ H.next + 1 ≤ H1.next ∧ Own H1 3 1 ks.length (ks.map iv) y ∧ (∀ b, blkOf y = some b → H.next + 1 ≤ b) ∧
    H1.blk H.next = some ⟨2, 0, icells (some mb) c seen c⟩ ∧ Seen es seen ks ∧ (ks = [] → y = .slice none 0 0) ∧ H1.next = H.next + 1 + 2 * ks.length ∧ (ks ≠ [] → y = .slice (some ⟨H.next + 2 * ks.length, 0, none⟩) ks.length 0 ∧ H1.blk (H.next + 2 * ks.length) = some ⟨3, 1, ks.map iv⟩)
theorem push_exact {H : Heap} (hw : H.WF) {ety n : Nat} {cells : List Value} {x : Value} (h : Own H ety 1 n cells x) (v : Value) {bytes c : Nat} (hb : (n + 1) * bytes ≤ 140737488355328) :
    ∃ HA, sAppend (H.new ety 1 [v]) ety 1 bytes x (.slice (some ⟨H.next, 0, none⟩) 1 c) = some (.slice (some ⟨H.next + 1, 0, none⟩) (n + 1) 0, HA) ∧
      Og H HA ety x (n + 1) (cells ++ [v]) (.slice (some ⟨H.next + 1, 0, none⟩) (n + 1) 0) ∧ HA.next = H.next + 2 ∧ HA.blk (H.next + 1) = some ⟨ety, 1, cells ++ [v]⟩ := by
  have hnB := hw.next_ge
  have o2 : Own (H.new ety 1 [v]) ety 1 n cells x := h.keep rfl (fun b hb => by
    have := h.lt hw hb
    have : b ≠ H.next := by omega
    simp [this])
  have hap := append_any (bytes := bytes) o2 (src_one (H := H.new ety 1 [v]) (c := c) (by simpa using hnB) (by simp; exact ⟨rfl, rfl⟩)) (by omega) hb
  refine ⟨_, hap, ⟨by simp, by simp; omega, WF_new (WF_drop (WF_new hw _ _ _) _) _ _ _, Own.mk (by simp [h.1]) (by simp; omega) (by simp), ?_, ?_⟩, by simp, by simp⟩
  · intro b hb hx
    have m1 : b ≠ H.next := by omega
    have m2 : b ≠ H.next + 1 := by omega
    simp [m1, m2, blk_drop, hx]
  · intro b hb
    simp at hb; subst hb
    exact .inr (Nat.le_succ _)
theorem int_ext : ∀ {l m : List Int}, l.Pairwise (· < ·) → m.Pairwise (· < ·) → (∀ x, x ∈ l ↔ x ∈ m) → l = m
  | [], [], _, _, _ => rfl
  | [], b :: m, _, _, h => by have := (h b).2 (by simp); cases this
  | a :: l, [], _, _, h => by have := (h a).1 (by simp); cases this
  | a :: l, b :: m, hl, hm', h => by
    obtain ⟨l1, l2⟩ := List.pairwise_cons.1 hl
    obtain ⟨m1, m2⟩ := List.pairwise_cons.1 hm'
    have hab : a = b := by
      rcases List.mem_cons.1 ((h a).1 (by simp)) with e | e
      · exact e
      · rcases List.mem_cons.1 ((h b).2 (by simp)) with f | f
        · exact f.symm
        · have := m1 a e; have := l1 b f; omega
    subst hab
    congr 1
    refine int_ext l2 m2 (fun x => ?_)
    constructor
    · intro hx
      rcases List.mem_cons.1 ((h x).1 (by simp [hx])) with e | e
      · subst e; have := l1 x hx; omega
      · exact e
    · intro hx
      rcases List.mem_cons.1 ((h x).2 (by simp [hx])) with e | e
      · subst e; have := m1 x hx; omega
      · exact e
theorem sorted_of {ks : List Int} (hn : ks.Nodup) : ∃ ss : List Int, ss = (ks.mergeSort fun x y => decide (x ≤ y)) ∧ ss.length = ks.length ∧ (∀ k, k ∈ ss ↔ k ∈ ks) ∧ ss.Pairwise (· < ·) := by
  refine ⟨_, rfl, by simp, fun k => List.mem_mergeSort, ?_⟩
  have h1 : (ks.mergeSort fun x y => decide (x ≤ y)).Pairwise fun x y => decide (x ≤ y) = true :=
    List.pairwise_mergeSort (fun a b c h1 h2 => by simp only [decide_eq_true_eq] at *; omega) (fun a b => by simp only [Bool.or_eq_true, decide_eq_true_eq]; omega) ks
  have h2 : (ks.mergeSort fun x y => decide (x ≤ y)).Nodup := (List.mergeSort_perm ks _).nodup_iff.2 hn
  refine h1.imp₂ ?_ h2
  intro a b hab hne
  simp only [decide_eq_true_eq] at hab
  omega
/-- The heap behind Ages: but for the row all that it made is forgotten. -/
def agH (H : Heap) (ss : List Int) : Heap := { base := H.base, next := H.next + 1 + 2 * ss.length, blk := fun b => if b = H.next + 2 * ss.length ∧ ss ≠ [] then some ⟨3, 1, ss.map iv⟩ else H.blk b }
def agV (H : Heap) (ss : List Int) : Value := if ss = [] then .slice none 0 0 else .slice (some ⟨H.next + 2 * ss.length, 0, none⟩) ss.length 0
theorem agH_wf {H : Heap} (hw : H.WF) (ss : List Int) : (agH H ss).WF := by
  refine ⟨by have := hw.next; show H.B ≤ H.next + 1 + 2 * ss.length; omega, fun b k hk => ?_⟩
  simp only [agH] at hk
  have := hw.next
  split at hk
  · rename_i h
    show H.B ≤ b ∧ b < H.next + 1 + 2 * ss.length
    omega
  · have := hw.live b k hk
    show H.B ≤ b ∧ b < H.next + 1 + 2 * ss.length
    omega
theorem ag_row {H : Heap} (hw : H.WF) (ss : List Int) : Row H (agH H ss) 3 1 ss.length (ss.map iv) (agV H ss) := by
  have hnB := hw.next_ge
  refine ⟨?_, ⟨agH_wf hw ss, rfl, by show H.next ≤ H.next + 1 + 2 * ss.length; omega, fun b hb => ?_⟩, fun b hb => ?_⟩
  · by_cases h : ss = []
    · subst h; exact Own.nil _ _ _
    · unfold agV
      rw [if_neg h]
      refine ⟨by simp, .inr ⟨_, [], rfl, ?_, ?_⟩⟩
      · show ¬ H.next + 2 * ss.length < H.B
        omega
      · simp [agH, h]
  · simp only [agH]
    rw [if_neg (by omega)]
  · unfold agV at hb
    split at hb
    · cases hb
    · have : H.next + 2 * ss.length = b := Option.some.inj hb
      omega
theorem ag_kills {H H1 : Heap} (hw : H.WF) (hw1 : H1.WF) {ss : List Int} (hb : H1.base = H.base) (hn : H1.next = H.next + 1 + 2 * ss.length) (hk : ∀ b, b < H.next → H1.blk b = H.blk b) (ho : ss ≠ [] → H1.blk (H.next + 2 * ss.length) = some ⟨3, 1, ss.map iv⟩) :
    ∃ bs, H1.kills bs = agH H ss := by
  have none_of : ∀ {G : Heap}, G.WF → ∀ b, G.next ≤ b → G.blk b = none := by
    intro G hG b hb
    cases h : G.blk b with
    | none => rfl
    | some k => have := (hG.live b k h).2; omega
  by_cases h : ss = []
  · subst h
    refine ⟨[H.next], Heap.eq_of ((kills_base _ _).trans hb) ((kills_next _ _).trans hn) fun b => ?_⟩
    rw [kills_blk]
    simp only [agH, List.mem_singleton, ne_eq, not_true_eq_false, and_false, if_false]
    by_cases e : b = H.next
    · rw [if_pos e, none_of hw b (by omega)]
    · rw [if_neg e]
      by_cases e2 : b < H.next
      · exact hk b e2
      · rw [none_of hw b (by omega), none_of hw1 b (by simp at hn; omega)]
  · refine ⟨(List.range (2 * ss.length)).map (H.next + ·), Heap.eq_of ((kills_base _ _).trans hb) ((kills_next _ _).trans hn) fun b => ?_⟩
    rw [kills_blk]
    have hmem : b ∈ (List.range (2 * ss.length)).map (H.next + ·) ↔ H.next ≤ b ∧ b < H.next + 2 * ss.length := by
      rw [List.mem_map]
      constructor
      · rintro ⟨i, hi, rfl⟩; rw [List.mem_range] at hi; omega
      · rintro ⟨h1, h2⟩; exact ⟨b - H.next, List.mem_range.2 (by omega), by omega⟩
    by_cases e : b = H.next + 2 * ss.length
    · have r : (agH H ss).blk b = some ⟨3, 1, ss.map iv⟩ := if_pos ⟨e, h⟩
      rw [r, if_neg (fun x => by have := (hmem.1 x).2; omega), e, ho h]
    · have r : (agH H ss).blk b = H.blk b := if_neg (fun x => e x.1)
      rw [r]
      by_cases e2 : H.next ≤ b ∧ b < H.next + 2 * ss.length
      · rw [if_pos (hmem.2 e2), none_of hw b e2.1]
      · rw [if_neg (fun x => e2 (hmem.1 x))]
        by_cases e3 : b < H.next
        · exact hk b e3
        · rw [none_of hw b (by omega), none_of hw1 b (by omega)]
theorem ages_T {H : Heap} (hw : H.WF) {p W R : Nat} {D : SD} (h : ST H p D) (pl : PL D W R) : ∃ ss : List Int, T Try.prog 30 [ptr p] H (agV H ss) (agH H ss) ∧ ss.length ≤ R ∧ ss.Pairwise (· < ·) ∧ ∀ k, k ∈ ss ↔ D.mc k ≠ 0 := by
  obtain ⟨c, es, hmk, hmi, hcl⟩ := h.mp
  have hnB := hw.next_ge
  have hmat := mapAt_of h.hm hmk
  have kf : ∃ f : MEnt → Int, ∀ e ∈ es, e.key = iv (f e) := by
    refine ⟨fun e => match e.key with | .int _ n => n | _ => 0, fun e he => ?_⟩
    obtain ⟨k, h1, _⟩ := hmi.kv e he
    show e.key = iv (match e.key with | .int _ n => n | _ => 0)
    rw [h1]
  obtain ⟨f, hf⟩ := kf
  have nd0 : (es.map f).Nodup := List.pairwise_map.2 (hmi.nd.imp_of_mem (fun {a b} ha hb hne e => hne (by rw [hf a ha, hf b hb, e])))
  have mc0 : ∀ k, k ∈ es.map f ↔ D.mc k ≠ 0 := by
    intro k
    constructor
    · intro hk
      obtain ⟨e, he, rfl⟩ := List.mem_map.1 hk
      exact hcl e he _ (hf e he)
    · intro hk
      obtain ⟨e, he, h2⟩ := hmi.has k hk
      have := hf e he
      rw [h2] at this
      cases this
      exact List.mem_map.2 ⟨e, he, rfl⟩
  obtain ⟨ss, _, ssl, ssm, ssp⟩ := sorted_of nd0
  have ssmc : ∀ k, k ∈ ss ↔ D.mc k ≠ 0 := fun k => (ssm k).trans (mc0 k)
  have hssR : ss.length ≤ R := by
    rw [ssl]; exact ages_le pl nd0 (fun k hk => (mc0 k).1 hk)
  have hR1 := pl.R1
  refine ⟨ss, ?_, hssR, ssp, ssmc⟩
  refine TN.kills rfl (by show H.next ≤ H.next + 1 + 2 * ss.length; omega) (fun _ => agH_wf hw ss) ?_
  refine N_by hm light30 ?_
  have l3 := h.l3
  have sr : sRange H (.map (some D.mb)) = some (ptr H.next, H.new 2 0 (icells (some D.mb) c [] c)) := by
    simp only [sRange, hmat, Option.map_some]
  simp [L30, l3, sr]
  have onB : On H (H.new 2 0 (icells (some D.mb) c [] c)) := (On.refl hw).new _ _ _
  refine loopN_at (InvAg H p D.mb c es) (Itr.left ⟨some D.mb, c, [], c⟩ es).length ?_ ?_
  · exact ⟨[], [], .slice none 0 0, Nat.le_refl _, by simp, by simp, by simp, onB, by simp, Own.nil _ _ _, fun b hb => (by cases hb), by simp, ⟨rfl, by simp, fun i h => by simp at h⟩, fun _ => rfl, by simp, fun h => absurd rfl h⟩
  · rintro k t H1 ⟨seen, ks, y, hlen, t0, t3, t9, on, hn1, own, hy, hit, hse, hynil, hnx, hyb⟩
    have hB1 := B_eq on.base
    have q1 : ¬ H.next < H1.B := by rw [hB1]; exact hnB
    have iAt := iterAt_of (q := ⟨some D.mb, c, seen, c⟩) q1 hit
    have mAt : H1.mapAt D.mb = some (c, es) := mapAt_of (by rw [hB1]; exact h.hm) (by rw [on.keep _ (hw.lt hmk)]; exact hmk)
    simp [L30_1, t9]
    refine nextM_of iAt mAt ?_ ?_ ?_
    · have : ∀ l : List MEnt, (∀ e ∈ l, e.born < c) → l ≠ [] → (l.all fun e => decide (c ≤ e.born)) = false := by
        intro l hl hne
        cases l with
        | nil => exact absurd rfl hne
        | cons a l =>
          have := hl a (by simp)
          rw [List.all_cons, decide_eq_false (by omega), Bool.false_and]
      simp only [Itr.ok]
      cases es with
      | nil => simp
      | cons a l => rw [this (a :: l) hmi.bl (by simp)]; simp
    · intro hold
      have all : ∀ e ∈ es, e.born ∈ seen := by
        intro e he
        refine Classical.byContradiction fun hn => ?_
        have : e ∈ Itr.old ⟨some D.mb, c, seen, c⟩ es := by
          simp only [Itr.old, Itr.left, List.mem_filter, decide_eq_true_eq, Bool.not_eq_true', List.contains_eq_mem, decide_eq_false_iff_not]
          exact ⟨⟨he, hn⟩, hmi.bl e he⟩
        rw [hold] at this
        cases this
      have mem : ∀ k, k ∈ ks ↔ D.mc k ≠ 0 := by
        intro k
        constructor
        · intro hk
          obtain ⟨i, hi, rfl⟩ := List.mem_iff_getElem.1 hk
          obtain ⟨e, he, _, h2⟩ := hse.ent i (by rw [hse.len]; exact hi) hi
          exact hcl e he _ h2
        · intro hk
          obtain ⟨e, he, h2⟩ := hmi.has k hk
          exact (hse.key hmi he h2).1 (all e he)
      obtain ⟨s2, hs2, s2l, s2m, s2p⟩ := sorted_of hse.nd
      have hss : s2 = ss := int_ext s2p ssp (fun k => by rw [s2m, mem, ssmc])
      subst hss
      by_cases hks : ks = []
      · have hy0 := hynil hks
        subst hks
        have hss0 : s2 = [] := List.length_eq_zero_iff.1 (by rw [s2l]; rfl)
        have nT := ints_nil H1
        rw [hy0] at t3
        have kl := ag_kills hw on.wf (ss := s2) on.base (by rw [hnx, s2l]) on.keep (fun h => absurd hss0 h)
        obtain ⟨V, hV⟩ : ∃ V, V = agV H s2 := ⟨_, rfl⟩
        have hV0 : V = .slice none 0 0 := by rw [hV, hss0]; rfl
        obtain ⟨HG, hHG⟩ : ∃ HG, HG = agH H s2 := ⟨_, rfl⟩
        rw [← hHG] at kl
        rw [← hV, ← hHG]
        simp [t3]
        refine goN_T nT ?_
        simp [t3, hV0]
        exact kl
      · obtain ⟨hy0, hyk⟩ := hyb hks
        have hkl : 0 < ks.length := List.length_pos_iff.2 hks
        obtain ⟨ob, hob⟩ : ∃ ob, ob = H.next + 2 * ks.length := ⟨_, rfl⟩
        rw [← hob] at hy0 hyk
        have hoB : ¬ ob < H1.B := by rw [B_eq on.base]; omega
        have sT := ints_T (c := 0) (rest := []) hoB (by rw [List.append_nil]; exact hyk) hkl (by omega)
        rw [← hs2, List.append_nil] at sT
        have hs0 : s2 ≠ [] := fun e => by rw [e] at s2l; simp at s2l; omega
        have on2 : On H (H1.put ob (s2.map iv)) := on.put (by omega) _
        have kl := ag_kills hw on2.wf (ss := s2) on2.base (by show H1.next = _; rw [hnx, s2l]) on2.keep (fun _ => by rw [s2l, ← hob]; simp [hyk])
        obtain ⟨H2, hH2⟩ : ∃ H2, H2 = H1.put ob (s2.map iv) := ⟨_, rfl⟩
        rw [← hH2] at sT kl
        obtain ⟨V, hV⟩ : ∃ V, V = agV H s2 := ⟨_, rfl⟩
        have hV0 : V = .slice (some ⟨ob, 0, none⟩) ks.length 0 := by rw [hV]; unfold agV; rw [if_neg hs0, s2l, hob]
        obtain ⟨HG, hHG⟩ : ∃ HG, HG = agH H s2 := ⟨_, rfl⟩
        rw [← hHG] at kl
        rw [← hV, ← hHG]
        rw [hy0] at t3
        simp [t3]
        refine goN_T sT ?_
        simp [t3, hV0]
        exact kl
    · intro e he
      have he' : e ∈ es ∧ e.born ∉ seen := by
        simp only [Itr.left, List.mem_filter, Bool.not_eq_true', List.contains_eq_mem, decide_eq_false_iff_not] at he
        exact he
      obtain ⟨he1, he2⟩ := he'
      obtain ⟨g, hg1, hg2⟩ := hmi.kv e he1
      have hse2 := hse.push hmi he1 hg1 he2
      have lk2 : (Itr.left ⟨some D.mb, c, seen ++ [e.born], c⟩ es).length < k := by
        have h1 : Itr.left ⟨some D.mb, c, seen ++ [e.born], c⟩ es = (Itr.left ⟨some D.mb, c, seen, c⟩ es).filter fun x => decide (x.born ≠ e.born) := by
          simp only [Itr.left, List.filter_filter]
          refine List.filter_congr fun x _ => ?_
          rw [Bool.eq_iff_iff]
          simp
          exact and_comm
        rw [h1]
        refine Nat.lt_of_lt_of_le (List.length_filter_lt_length_iff_exists.2 ⟨e, he, by simp⟩) hlen
      have lkR : ks.length + 1 ≤ R := by
        have := ages_le pl hse2.nd (fun k hk => by
          obtain ⟨i, hi, rfl⟩ := List.mem_iff_getElem.1 hk
          obtain ⟨e', he', _, h2⟩ := hse2.ent i (by rw [hse2.len]; exact hi) hi
          exact hcl e' he' _ h2)
        simpa using this
      have dummy : True := trivial
      cases dummy with
      | intro =>
        obtain ⟨HA, hHA⟩ : ∃ HA, HA = H1.put H.next (icells (some D.mb) c (seen ++ [e.born]) c) := ⟨_, rfl⟩
        have onA : On H HA := by rw [hHA]; exact on.put (Nat.le_refl _) _
        have nA : HA.next = H1.next := by rw [hHA]; rfl
        have itA : HA.blk H.next = some ⟨2, 0, icells (some D.mb) c (seen ++ [e.born]) c⟩ := by rw [hHA]; simp [hit]
        have ownA : Own HA 3 1 ks.length (ks.map iv) y := own.keep (by rw [hHA]; rfl) (fun b hb => by rw [hHA]; have := hy b hb; simp [show b ≠ H.next by omega])
        have qA : ¬ H.next < HA.B := by rw [B_eq onA.base]; exact hnB
        have iA := iterAt_of (q := ⟨some D.mb, c, seen ++ [e.born], c⟩) qA itA
        have mA : HA.mapAt D.mb = some (c, es) := mapAt_of (by rw [B_eq onA.base]; exact h.hm) (by rw [onA.keep _ (hw.lt hmk)]; exact hmk)
        have en : sEntry HA (ptr H.next) = some (.tuple #[iv g, e.val]) := by
          simp only [sEntry, iA, mA, Option.bind_some]
          simp [find_by hmi.bn he1, hg1]
        obtain ⟨HC, ap, og, nC, bC⟩ := push_exact onA.wf ownA (iv g) (bytes := 8) (c := 0) (by omega)
        rw [nA] at ap nC bC
        have hz1 : zerosA [iv 0] 1 = [iv 0] := rfl
        simp [hg1, ← hHA, en, t3, t9, nA, ap, hz1]
        have o1 := og.next
        rw [nA] at og o1
        refine ⟨_, lk2, ?_⟩
        show InvAg H p D.mb c es _ _ HC
        refine ⟨seen ++ [e.born], ks ++ [g], _, Nat.le_refl _, by simp [t0], rfl, by simp [t9], ⟨og.wf, og.base.trans onA.base, Nat.le_trans onA.next og.next, fun b hb => ?_⟩, by omega, by simpa using og.own, fun b hb => ?_, ?_, hse2, fun e => by simp at e, by simp; omega, fun _ => ⟨by
          have e1 : H.next + 2 * (ks ++ [g]).length = H1.next + 1 := by simp; omega
          rw [e1]; simp, by
          have e1 : H.next + 2 * (ks ++ [g]).length = H1.next + 1 := by simp; omega
          rw [e1, bC]; simp⟩⟩
        · rw [og.same b (by have := onA.next; omega) (fun hx => by have := hy b hx; omega), onA.keep b hb]
        · rcases og.old b (by simpa using hb) with h1 | h1
          · exact hy b h1
          · omega
        · rw [og.same H.next (by omega) (fun hx => by have := hy _ hx; omega), itA]
end Go.Proofs.Ythclcdboialfnaa
