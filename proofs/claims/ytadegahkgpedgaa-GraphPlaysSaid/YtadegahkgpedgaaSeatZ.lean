/-
  Chapter 23: the plain laws: both graphs tell the same.
-/
import Derived.Test.YtadegahkgpedgaaSeatY
import Derived.Test.YtadegahkgpedgaaSeatS
namespace Go.Proofs.Ytadegahkgpedgaa
open Go.Ot Go.RowKit
set_option linter.unusedSimpArgs false
set_option linter.unusedVariables false
theorem ext_of {α : Type} {r : α → α → Prop} (irr : ∀ a, ¬ r a a) (asym : ∀ a b, r a b → ¬ r b a) : ∀ {X Y : List α}, X.Pairwise r → Y.Pairwise r → (∀ a, a ∈ X ↔ a ∈ Y) → X = Y
  | [], [], _, _, _ => rfl
  | [], b :: Y, _, _, h => by have := (h b).2 (by simp); cases this
  | a :: X, [], _, _, h => by have := (h a).1 (by simp); cases this
  | a :: X, b :: Y, hX, hY, h => by
    rw [List.pairwise_cons] at hX hY
    have hab : a = b := by
      rcases List.mem_cons.1 ((h a).1 (by simp)) with e | h1
      · exact e
      · rcases List.mem_cons.1 ((h b).2 (by simp)) with e | h2
        · exact e.symm
        · exact absurd (hX.1 b h2) (asym b a (hY.1 a h1))
    subst hab
    congr 1
    refine ext_of irr asym hX.2 hY.2 (fun c => ?_)
    constructor
    · intro hc
      rcases List.mem_cons.1 ((h c).1 (List.mem_cons_of_mem _ hc)) with e | h1
      · subst e; exact absurd (hX.1 _ hc) (irr _)
      · exact h1
    · intro hc
      rcases List.mem_cons.1 ((h c).2 (List.mem_cons_of_mem _ hc)) with e | h1
      · subst e; exact absurd (hY.1 _ hc) (irr _)
      · exact h1
theorem inc_ext {X Y : List Int} (hX : X.Pairwise (· < ·)) (hY : Y.Pairwise (· < ·)) (h : ∀ a, a ∈ X ↔ a ∈ Y) : X = Y :=
  ext_of (r := (· < ·)) (fun a => Int.lt_irrefl a) (fun a b h => by omega) hX hY h
theorem ord_ext {X Y : List Ed} (hX : Ordered X) (hY : Ordered Y) (h : ∀ a, a ∈ X ↔ a ∈ Y) : X = Y :=
  ext_of (r := fun e f => befB e f = true) (fun a h => by rw [bef_irr] at h; cases h) (fun a b h1 h2 => by
    have := bef_trans h1 h2
    rw [bef_irr] at this; cases this) hX hY h
theorem rd_inc {L : List Ed} (h : Ordered L) (w : Int) : (rd L w).Pairwise (· < ·) := by
  unfold rd
  rw [List.pairwise_map]
  refine List.Pairwise.imp_of_mem ?_ (List.Pairwise.filter _ h)
  intro a b ha hb hab
  have h1 := (List.mem_filter.1 ha).2
  have h2 := (List.mem_filter.1 hb).2
  simp only [befB, Bool.or_eq_true, Bool.and_eq_true, decide_eq_true_eq, beq_iff_eq] at *
  omega
theorem readers_eq {L U : List Ed} (ho : Ordered L) (hp : L.Perm U) {w : Int} {X : List Int} (sv : SortV (rd U w) X) : rd L w = X := by
  refine inc_ext (rd_inc ho w) sv.inc (fun a => ?_)
  rw [sv.mem, mem_rd, mem_rd]
  constructor
  · rintro ⟨e, he, h⟩; exact ⟨e, hp.mem_iff.1 he, h⟩
  · rintro ⟨e, he, h⟩; exact ⟨e, hp.mem_iff.2 he, h⟩
theorem idx_lt {X : List Int} (hX : X.Pairwise (· < ·)) {i j : Nat} (hi : i < X.length) (hj : j < X.length) (h : X[j] < X[i]) : j < i := by
  by_cases h1 : j < i
  · exact h1
  · exfalso
    by_cases h2 : i = j
    · subst h2; omega
    · have := List.pairwise_iff_getElem.1 hX i j hi hj (by omega)
      omega
theorem fall_eq {L U : List Ed} (hp : L.Perm U) (hV : Valid L) {age : Int} {f X Y : List Int} (fv : FallV L age f) (sv : SortV X Y) (fs : FallS U age X) (hc : clo U X U.length) : f = Y := by
  have hcl : ∀ e ∈ U, e.2 ∈ X → e.1 ∈ X := by
    intro e he h
    obtain ⟨q, hq, rfl⟩ := List.getElem_of_mem he
    exact hc q hq hq h
  have hage : age ∈ f := List.mem_of_getElem? fv.hd
  refine inc_ext fv.inc sv.inc (fun a => ⟨fun ha => ?_, fun ha => ?_⟩)
  · rw [sv.mem]
    have key : ∀ n i, i < n → ∀ h : i < f.length, f[i] ∈ X := by
      intro n
      induction n with
      | zero => intro i hi; omega
      | succ n ih =>
        intro i hi h
        rcases fv.lean f[i] (List.getElem_mem h) with e | ⟨e, he, h1, h2⟩
        · rw [e]; exact fs.has
        · obtain ⟨j, hj, hje⟩ := List.getElem_of_mem h2
          have hlt := (hV e he).2
          have hji := idx_lt fv.inc h hj (by rw [hje, ← h1]; exact hlt)
          have := ih j (by omega) hj
          rw [hje] at this
          rw [← h1]
          exact hcl e (hp.mem_iff.1 he) this
    obtain ⟨i, hi, rfl⟩ := List.getElem_of_mem ha
    exact key (i + 1) i (by omega) hi
  · have key : ∀ n i, i < n → ∀ h : i < Y.length, Y[i] ∈ f := by
      intro n
      induction n with
      | zero => intro i hi; omega
      | succ n ih =>
        intro i hi h
        rcases fs.lean Y[i] ((sv.mem _).1 (List.getElem_mem h)) with e | ⟨e, he, h1, h2⟩
        · rw [e]; exact hage
        · obtain ⟨j, hj, hje⟩ := List.getElem_of_mem ((sv.mem _).2 h2)
          have heL := hp.mem_iff.2 he
          have hlt := (hV e heL).2
          have hji := idx_lt sv.inc h hj (by rw [hje, ← h1]; exact hlt)
          have := ih j (by omega) hj
          rw [hje] at this
          rw [← h1]
          exact fv.closed e heL this
    obtain ⟨i, hi, rfl⟩ := List.getElem_of_mem ha
    exact key (i + 1) i (by omega) hi
theorem place_mem {L : List Ed} (ho : Ordered L) {e : Ed} {i : Nat} (hp : PlaceV L e i) : L[i]? = some e ↔ e ∈ L := by
  constructor
  · exact List.mem_of_getElem?
  · intro h
    obtain ⟨q, hq, hqe⟩ := List.getElem_of_mem h
    have hle : ¬ q < i := by
      intro hlt
      have := hp.lo q hq hlt
      rw [hqe, bef_irr] at this
      cases this
    by_cases hqi : q = i
    · subst hqi; rw [List.getElem?_eq_getElem hq, hqe]
    · exfalso
      have h3 := List.pairwise_iff_getElem.1 ho i q (by omega) hq (by omega)
      rw [hqe] at h3
      rw [hp.hi i (by omega) (Nat.le_refl _)] at h3
      cases h3
theorem phas_T {H : Heap} (hw : H.WF) {p : Nat} {room : Int} {L : List Ed} {x : Value} (gr : GR H p room L x) (r w : Int) : T Try.prog 17 [ptr p, iv r, iv w] H (.bool (decide ((r, w) ∈ L))) H := by
  refine T_eq hm light17 ?_
  obtain ⟨i, hp, hT⟩ := place_T hw gr (r, w)
  have hpm := place_mem gr.ord hp
  have : decide (L[i]? = some (r, w)) = decide ((r, w) ∈ L) := by
    by_cases h : (r, w) ∈ L
    · simp [h, hpm.2 h]
    · have : ¬ L[i]? = some (r, w) := fun h2 => h (hpm.1 h2)
      simp [h, this]
  rw [this] at hT
  obtain ⟨bb, hbb⟩ : ∃ bb, bb = decide ((r, w) ∈ L) := ⟨_, rfl⟩
  rw [← hbb] at hT ⊢
  simp only [edv] at hT
  simp [L17]
  refine goT_of hT ?_
  simp
/-- What stands while calls of both are done. -/
structure GP (H H1 : Heap) (p rb : Nat) (room : Int) (L U : List Ed) (x xr : Value) : Prop where
  gr : GR H1 p room L x
  ur : UR H1 xr U
  perm : L.Perm U
  val : Valid L
  wf : H1.WF
  base : H1.base = H.base
  pn : H.next ≤ p
  keep : ∀ b, b < H.next → H1.blk b = H.blk b
  brb : H1.blk rb = some ⟨36, 2, rv room xr⟩
  rn : H.next ≤ rb
  rp : rb ≠ p
  xrb : blkOf x ≠ some rb
  xn : ∀ b, blkOf x = some b → H.next ≤ b
  sep : ∀ b, blkOf xr = some b → b ≠ p ∧ blkOf x ≠ some b ∧ b < H1.next ∧ b ≠ rb
theorem GP.step {H H1 H2 : Heap} {p rb : Nat} {room : Int} {L U L2 U2 : List Ed} {x xr x2 xr2 : Value} (hw : H.WF) (g : GP H H1 p rb room L U x xr) (o : Op)
    (gr2 : GR H2 p room L2 x2) (hpL : L2.Perm (opU L room o)) (hU : U2 = opU U room o) (u2 : UR H2 xr2 U2) (hs : ∀ b, blkOf xr2 = some b → b ≠ p ∧ blkOf x2 ≠ some b)
    (hn : ∀ b, blkOf xr2 = some b → blkOf xr = some b ∨ (H1.next ≤ b ∧ b < H2.next)) (a : Aft H1 H2 p x x2) :
    ∃ H3, sStore H2 2 (ptr rb) (.agg (rv room xr2).toArray) = some H3 ∧ GP H H3 p rb room L2 U2 x2 xr2 := by
  have hrbn := g.wf.lt g.brb
  have bH := a.base.trans g.base
  have k2 : H2.blk rb = some ⟨36, 2, rv room xr⟩ := by rw [a.keep rb hrbn g.rp g.xrb]; exact g.brb
  have hB : ¬ rb < H2.B := by
    have := hw.next_ge
    have := g.rn
    rw [B_eq bH]; omega
  have x2rb : blkOf x2 ≠ some rb := by
    intro h
    rcases a.new rb h with h4 | h4
    · exact g.xrb h4
    · omega
  have srb : ∀ b, blkOf xr2 = some b → b ≠ rb := by
    intro b hb
    rcases hn b hb with h1 | h1
    · exact (g.sep b h1).2.2.2
    · omega
  have hpn := g.wf.lt g.gr.bp
  refine ⟨H2.put rb (rv room xr2), ?_, ?_⟩
  · rw [sStore_agg H2 ⟨rb, 0, none⟩ 2 (rv room xr2) rfl (by decide), storeN_at hB k2 (by simp [rv])]
    rfl
  · refine ⟨⟨gr2.hp, ?_, gr2.own.keep rfl (fun b hb => ?_), gr2.px, gr2.ord, gr2.len⟩, ?_, ?_, fun e he => opU_valid g.val room o e (hpL.mem_iff.1 he), WF_put a.wf _ _, bH, g.pn, fun b hb => ?_, by simp [k2], g.rn, g.rp, x2rb, fun b hb => ?_, fun b hb => ?_⟩
    · have : p ≠ rb := fun e => g.rp e.symm
      simp [this, gr2.bp]
    · have : b ≠ rb := fun e => x2rb (e ▸ hb)
      simp [this]
    · rcases u2 with h | ⟨b, off, c, h, hh⟩
      · exact .inl h
      · refine .inr ⟨b, off, c, h, fun i hi => ⟨(hh i hi).1, fun j hj => ?_⟩⟩
        have hbx : blkOf xr2 = some b := by rw [h]; rfl
        rw [load_frame (H := H2) (by rfl)]
        · exact (hh i hi).2 j hj
        · have := srb b hbx
          simp [this]
    · rw [hU]; exact hpL.trans (opU_perm g.perm room o)
    · have h1 := g.pn
      have h2 := g.rn
      have : b ≠ rb := by omega
      simp [this]
      rw [a.keep b (by omega) (by omega) (fun hx => by have := g.xn b hx; omega), g.keep b hb]
    · rcases a.new b hb with h4 | h4
      · exact g.xn b h4
      · have := g.pn; omega
    · obtain ⟨s1, s2⟩ := hs b hb
      refine ⟨s1, s2, ?_, srb b hb⟩
      show b < H2.next
      rcases hn b hb with h1 | h1
      · exact Nat.lt_of_lt_of_le (g.sep b h1).2.2.1 a.next
      · exact h1.2
end Go.Proofs.Ytadegahkgpedgaa
