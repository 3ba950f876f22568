/-
  Chapter 23: New, Len, Add.
-/
import Derived.Test.YtadegahkgpedgaaSeatC
namespace Go.Proofs.Ytadegahkgpedgaa
open Go.Ot Go.RowKit
set_option linter.unusedSimpArgs false
set_option linter.unusedVariables false
theorem new_no {H : Heap} {room : Int} (h : room < 1 ∨ 512 < room) : T Try.prog 6 [iv room] H (.tuple #[.pointer none, iv 161]) H := by
  refine T_eq hm light6 ?_
  by_cases h1 : room < 1
  · simp [L6, h1]
  · have h2 : 512 < room := by omega
    simp [L6, h1, h2]
/-- Memory stands but for the graph's own blocks. -/
structure Aft (H H' : Heap) (p : Nat) (x x' : Value) : Prop where
  wf : H'.WF
  base : H'.base = H.base
  next : H.next ≤ H'.next
  keep : ∀ b, b < H.next → b ≠ p → blkOf x ≠ some b → H'.blk b = H.blk b
  new : ∀ b, blkOf x' = some b → blkOf x = some b ∨ H.next ≤ b
theorem new_T {H : Heap} (hw : H.WF) {room : Int} (h : 1 ≤ room ∧ room ≤ 512) : ∃ H', T Try.prog 6 [iv room] H (.tuple #[ptr H.next, iv 0]) H' ∧ GR H' H.next room [] (.slice none 0 0) ∧ H'.WF ∧ H'.base = H.base ∧ H.next < H'.next ∧ ∀ b, b < H.next → H'.blk b = H.blk b := by
  refine ⟨H.new 57 2 [iv room, .slice none 0 0], ?_, ?_, WF_new hw _ _ _, by simp, by simp, ?_⟩
  · refine T_eq hm light6 ?_
    have h1 : ¬ room < 1 := by omega
    have h2 : ¬ 512 < room := by omega
    simp [L6, h1, h2]
  · have hnB := hw.next_ge
    exact ⟨by simpa using hnB, by simp, Own.nil _ _ _, by simp, List.Pairwise.nil, by simp⟩
  · intro b hb
    have : b ≠ H.next := by omega
    simp [this]
theorem len_T {H : Heap} {p : Nat} {room : Int} {L : List Ed} {x : Value} (h : GR H p room L x) : T Try.prog 9 [ptr p] H (iv L.length) H := by
  refine T_eq hm light9 ?_
  obtain ⟨a, hx⟩ := h.own.len
  have hld := h.ld1
  rw [hx] at hld
  simp [L9, hld]
theorem cells_len (L : List Ed) : (L.map edv).flatten.length = L.length * 2 := by
  induction L with
  | nil => rfl
  | cons e L ih => simp [edv, ih]; omega
theorem cells_take (L : List Ed) (i : Nat) : (L.map edv).flatten.take (i * 2) = ((L.take i).map edv).flatten := by
  induction L generalizing i with
  | nil => simp
  | cons e L ih =>
    cases i with
    | zero => simp
    | succ i =>
      have : (i + 1) * 2 = i * 2 + 2 := by omega
      simp [edv, this, ih]
theorem cells_drop (L : List Ed) (i : Nat) : (L.map edv).flatten.drop (i * 2) = ((L.drop i).map edv).flatten := by
  induction L generalizing i with
  | nil => simp
  | cons e L ih =>
    cases i with
    | zero => simp
    | succ i =>
      have : (i + 1) * 2 = i * 2 + 2 := by omega
      simp [edv, this, ih]
theorem PlaceV.uniq {L : List Ed} {e : Ed} {i j : Nat} (h : PlaceV L e i) (h' : PlaceV L e j) : i = j := by
  by_cases h1 : i < j
  · have a := h.hi i (by have := h'.le; omega) (Nat.le_refl _)
    rw [h'.lo i (by have := h'.le; omega) h1] at a
    cases a
  · by_cases h2 : j < i
    · have a := h'.hi j (by have := h.le; omega) (Nat.le_refl _)
      rw [h.lo j (by have := h.le; omega) h2] at a
      cases a
    · omega
theorem ins_ord {L : List Ed} {e : Ed} {i : Nat} (ho : Ordered L) (hp : PlaceV L e i) (hn : L[i]? ≠ some e) : Ordered (L.take i ++ e :: L.drop i) := by
  unfold Ordered at *
  have hal : ∀ f ∈ L.take i, befB f e = true := by
    intro f hf
    obtain ⟨q, hq, rfl⟩ := List.getElem_of_mem hf
    rw [List.length_take] at hq
    rw [List.getElem_take]
    exact hp.lo q (by omega) (by omega)
  have hpa := ho
  rw [← List.take_append_drop i L, List.pairwise_append] at hpa
  have har : ∀ f ∈ L.drop i, befB e f = true := by
    intro f hf
    obtain ⟨q, hq, rfl⟩ := List.getElem_of_mem hf
    rw [List.length_drop] at hq
    rw [List.getElem_drop]
    have h1 := hp.hi (i + q) (by omega) (by omega)
    cases hb : befB e L[i + q] with
    | true => rfl
    | false =>
      exfalso
      have heq := bef_tri h1 hb
      cases q with
      | zero =>
        apply hn
        rw [List.getElem?_eq_getElem (by omega)]
        simpa using heq
      | succ q =>
        have h2 := List.pairwise_iff_getElem.1 ho i (i + (q + 1)) (by omega) (by omega) (by omega)
        rw [heq, hp.hi i (by omega) (Nat.le_refl _)] at h2
        cases h2
  rw [List.pairwise_append]
  refine ⟨hpa.1, List.pairwise_cons.2 ⟨har, hpa.2.1⟩, ?_⟩
  intro a ha b hb
  rcases List.mem_cons.1 hb with rfl | hb
  · exact hal a ha
  · exact bef_trans (hal a ha) (har b hb)
theorem add_bad {H : Heap} (hw : H.WF) {p : Nat} {r w : Int} (h : w < 0 ∨ r ≤ w) : T Try.prog 8 [ptr p, iv r, iv w] H (iv 230) H := by
  refine T_seen hm light8 rfl ?_
  have st := new_storeA hw 46 2 [iv 0, iv 0] (edv (r, w)) rfl rfl (by decide)
  have keep : ∀ b, b < H.next → (H.new 46 2 (edv (r, w))).blk b = H.blk b := by
    intro b hb
    have : b ≠ H.next := by omega
    simp [this]
  simp only [edv] at st keep
  by_cases h1 : w < 0
  · simp [L8, st, h1]
    intro b hb hb2; omega
  · have h2 : r ≤ w := by omega
    simp [L8, st, h1, h2]
    intro b hb hb2; omega
theorem add_old {H : Heap} (hw : H.WF) {p : Nat} {room : Int} {L : List Ed} {x : Value} (g : GR H p room L x) {r w : Int} (h : ¬ (w < 0 ∨ r ≤ w)) (hv : ∃ i, PlaceV L (r, w) i ∧ (L[i]? = some (r, w) ∨ (L.length : Int) = room)) :
    T Try.prog 8 [ptr p, iv r, iv w] H (iv (if (r, w) ∈ L then 0 else 200)) H := by
  refine T_seen hm light8 (by split <;> rfl) ?_
  have st := new_storeA hw 46 2 [iv 0, iv 0] (edv (r, w)) rfl rfl (by decide)
  have keep : ∀ b, b < H.next → (H.new 46 2 (edv (r, w))).blk b = H.blk b := by
    intro b hb
    have : b ≠ H.next := by omega
    simp [this]
  have ldA := new_loadA hw 46 2 (edv (r, w)) rfl
  obtain ⟨HE, hHE⟩ : ∃ HE, HE = H.new 46 2 (edv (r, w)) := ⟨_, rfl⟩
  rw [← hHE] at st keep ldA
  have hwE : HE.WF := by rw [hHE]; exact WF_new hw _ _ _
  have gE := g.keep hw (H' := HE) (by rw [hHE]; rfl) keep
  obtain ⟨i, hp, hi⟩ := hv
  obtain ⟨i', hp', hT⟩ := place_T hwE gE (r, w)
  obtain rfl := hp.uniq hp'
  have h1 : ¬ w < 0 := by omega
  have h2 : ¬ r ≤ w := by omega
  obtain ⟨a, hx⟩ := gE.own.len
  have ld0 := gE.ld0
  have ld1 := gE.ld1
  rw [hx] at ld1
  have hmem : (r, w) ∈ L ↔ L[i]? = some (r, w) := by
    constructor
    · intro hm'
      obtain ⟨q, hq, hqe⟩ := List.getElem_of_mem hm'
      have hle : ¬ q < i := by
        intro hlt
        have := hp.lo q hq hlt
        rw [hqe, bef_irr] at this
        cases this
      by_cases hqi : q = i
      · subst hqi; rw [List.getElem?_eq_getElem hq, hqe]
      · exfalso
        have h3 := List.pairwise_iff_getElem.1 g.ord i q (by omega) hq (by omega)
        rw [hqe] at h3
        rw [hp.hi i (by omega) (Nat.le_refl _)] at h3
        cases h3
    · intro h3
      exact List.mem_of_getElem? h3
  simp only [edv] at st ldA hT
  by_cases hthere : L[i]? = some (r, w)
  · simp only [hthere] at hT
    simp [L8, st, h1, h2, ldA]
    refine goT_of hT ?_
    simp
    exact ⟨hmem.2 hthere, keep⟩
  · have hfull : (L.length : Int) = room := by
      rcases hi with hi | hi
      · exact absurd hi hthere
      · exact hi
    rw [← hfull] at ld0
    simp only [hthere] at hT
    simp [L8, st, h1, h2, ldA]
    refine goT_of hT ?_
    simp [ld0, ld1]
    exact ⟨fun hno => absurd (hmem.1 hno) hthere, keep⟩
theorem add_new {H : Heap} (hw : H.WF) {p : Nat} {room : Int} {L : List Ed} {x : Value} (g : GR H p room L x) {r w : Int} (h : ¬ (w < 0 ∨ r ≤ w)) {i : Nat} (hp : PlaceV L (r, w) i) (hno : L[i]? ≠ some (r, w)) (hroom : (L.length : Int) ≠ room) (hsm : L.length < 10000) :
    ∃ H' x', T Try.prog 8 [ptr p, iv r, iv w] H (iv 0) H' ∧ GR H' p room (L.take i ++ (r, w) :: L.drop i) x' ∧ Aft H H' p x x' := by
  have : ∃ v H', T Try.prog 8 [ptr p, iv r, iv w] H v H' ∧ v = iv 0 ∧ ∃ x', GR H' p room (L.take i ++ (r, w) :: L.drop i) x' ∧ Aft H H' p x x' := by
    refine T_by hm light8 ?_
    have hnB := hw.next_ge
    have st := new_storeA hw 46 2 [iv 0, iv 0] (edv (r, w)) rfl rfl (by decide)
    have keep : ∀ b, b < H.next → (H.new 46 2 (edv (r, w))).blk b = H.blk b := by
      intro b hb
      have : b ≠ H.next := by omega
      simp [this]
    have ldA := new_loadA hw 46 2 (edv (r, w)) rfl
    obtain ⟨HE, hHE⟩ : ∃ HE, HE = H.new 46 2 (edv (r, w)) := ⟨_, rfl⟩
    rw [← hHE] at st keep ldA
    have hwE : HE.WF := by rw [hHE]; exact WF_new hw _ _ _
    have nE : HE.next = H.next + 1 := by rw [hHE]; simp
    have bE : HE.base = H.base := by rw [hHE]; rfl
    have gE := g.keep hw (H' := HE) bE keep
    obtain ⟨i', hp', hT⟩ := place_T hwE gE (r, w)
    obtain rfl := hp.uniq hp'
    have h1 : ¬ w < 0 := by omega
    have h2 : ¬ r ≤ w := by omega
    obtain ⟨a, hx⟩ := gE.own.len
    have ld0 := gE.ld0
    have ld1 := gE.ld1
    have hr2 : ((L.length : Int) == room) = false := by simpa using hroom
    simp only [hno] at hT
    -- the row of one
    obtain ⟨HS, hHS⟩ : ∃ HS, HS = HE.new 46 2 [iv 0, iv 0] := ⟨_, rfl⟩
    have hwS : HS.WF := by rw [hHS]; exact WF_new hwE _ _ _
    have nS : HS.next = HE.next + 1 := by rw [hHS]; simp
    have hnE := hwE.next_ge
    have ownS : Own HS 46 2 L.length (L.map edv).flatten x := by rw [hHS]; exact Own.new hwE gE.own _ _ _
    have srcS : srcCells HS 2 (sl HE.next 1) = some (1, [iv 0, iv 0]) := by
      rw [src_at (ety := 46) (cs := [iv 0, iv 0]) (by rw [hHS]; simpa using hnE) (by rw [hHS]; simp) (by simp)]
      simp
    have ap := append_any (bytes := 16) ownS srcS (by decide) (by omega)
    obtain ⟨HA, hHA⟩ : ∃ HA, HA = (HS.drop x).new 46 2 ((L.map edv).flatten ++ [iv 0, iv 0]) := ⟨_, rfl⟩
    rw [← hHA] at ap
    have hz : zerosA [iv 0, iv 0] 2 = [iv 0, iv 0] := rfl
    have hpn : p < H.next := hw.lt g.bp
    have hpE : HE.blk p = some ⟨57, 2, [iv room, x]⟩ := gE.bp
    have nA : HA.next = HS.next + 1 := by rw [hHA]; simp
    have bA : HA.base = H.base := by rw [hHA, hHS]; simp [bE]
    have hpA : HA.blk p = some ⟨57, 2, [iv room, x]⟩ := by
      rw [hHA, hHS]
      have m1 : p ≠ HE.next + 1 := by omega
      have m2 : p ≠ HE.next := by omega
      simp [m1, m2, blk_drop, hpE, g.px]
    have hpB : ¬ p < HA.B := by rw [B_eq bA]; exact g.hp
    have hnbA : HA.blk HS.next = some ⟨46, 2, (L.map edv).flatten ++ [iv 0, iv 0]⟩ := by rw [hHA]; simp
    have hnbB : ¬ HS.next < HA.B := by rw [B_eq bA]; omega
    obtain ⟨n1, hn1⟩ : ∃ n1, n1 = L.length + 1 := ⟨_, rfl⟩
    rw [← hn1] at ap
    obtain ⟨HP, hHP⟩ : ∃ HP, HP = HA.put p [iv room, sl HS.next n1] := ⟨_, rfl⟩
    have stP : HA.store ⟨p, 1, none⟩ (sl HS.next n1) = some HP := by
      rw [store_own hpB hpA, if_pos (by simp), hHP]
      rfl
    have bP : HP.base = H.base := by rw [hHP]; simp [bA]
    have hpP : HP.blk p = some ⟨57, 2, [iv room, sl HS.next n1]⟩ := by rw [hHP]; simp [hpA]
    have hnbne : HS.next ≠ p := by omega
    have hnbP : HP.blk HS.next = some ⟨46, 2, (L.map edv).flatten ++ [iv 0, iv 0]⟩ := by rw [hHP]; simp [hnbne, hnbA]
    have hpPB : ¬ p < HP.B := by rw [B_eq bP]; exact g.hp
    have hnbPB : ¬ HS.next < HP.B := by rw [B_eq bP]; omega
    have ldP : HP.load ⟨p, 1, none⟩ = some (sl HS.next n1) := by rw [load_at hpPB hpP]; rfl
    have hil := hp.le
    have c1 : IntKind.i64.wrap ((i : Int) + 1) = ((i + 1 : Nat) : Int) := by rw [w64 _ (by omega)]; omega
    obtain ⟨i1, hi1⟩ : ∃ i1, i1 = i + 1 := ⟨_, rfl⟩
    rw [← hi1] at c1
    have s1 : sSlice 2 (sl HS.next n1) (some (iv i1)) none none = some (.slice (some ⟨HS.next, i1 * 2, none⟩) (n1 - i1) 2) := by
      have : i1 ≤ n1 := by omega
      have hne : ¬ i1 = 0 := by omega
      simp [sSlice, bnd, add_own, this, hne]
    obtain ⟨k2, hk2⟩ : ∃ k2, k2 = if i = 0 then 0 else 2 := ⟨_, rfl⟩
    have s2 : sSlice 2 (sl HS.next n1) (some (iv i)) none none = some (.slice (some ⟨HS.next, i * 2, none⟩) (n1 - i) k2) := by
      have : i ≤ n1 := by omega
      simp [sSlice, bnd, add_own, this, hk2]
    have hcl := cells_len L
    have cp : sCopy HP 2 (.slice (some ⟨HS.next, i1 * 2, none⟩) (n1 - i1) 2) (.slice (some ⟨HS.next, i * 2, none⟩) (n1 - i) k2) =
        some (iv (n1 - i1 : Nat), HP.put HS.next (((L.map edv).flatten ++ [iv 0, iv 0]).take (i1 * 2) ++ ((L.drop i).map edv).flatten)) := by
      have hsrc := src_at (c := k2) (m := n1 - i) hnbPB hnbP (off := i * 2) (by simp only [List.length_append, hcl, List.length_cons, List.length_nil]; omega)
      have hmin : min (n1 - i) (n1 - i1) = n1 - i1 := by omega
      simp only [sCopy, hsrc, Option.bind_some, hmin]
      have hvs : (List.take ((n1 - i1) * 2) (List.take ((n1 - i) * 2) (List.drop (i * 2) ((L.map edv).flatten ++ [iv 0, iv 0])))) = ((L.drop i).map edv).flatten := by
        rw [List.take_take, List.drop_append_of_le_length (by rw [hcl]; omega), cells_drop]
        have hl2 := cells_len (L.drop i)
        rw [List.length_drop] at hl2
        rw [List.take_append_of_le_length (by rw [hl2]; omega), List.take_of_length_le (by rw [hl2]; omega)]
      rw [hvs]
      have hl2 := cells_len (L.drop i)
      rw [List.length_drop] at hl2
      rw [storeN_at hnbPB hnbP (by simp only [List.length_append, hcl, hl2, List.length_cons, List.length_nil]; omega)]
      have e3 : List.drop (i1 * 2 + ((L.drop i).map edv).flatten.length) ((L.map edv).flatten ++ [iv 0, iv 0]) = [] :=
        List.drop_eq_nil_of_le (by simp only [List.length_append, hcl, hl2, List.length_cons, List.length_nil]; omega)
      simp only [Nat.add_zero, e3, Option.map_some, List.append_nil]
    obtain ⟨CC, hCC⟩ : ∃ CC, CC = ((L.map edv).flatten ++ [iv 0, iv 0]).take (i1 * 2) ++ ((L.drop i).map edv).flatten := ⟨_, rfl⟩
    rw [← hCC] at cp
    obtain ⟨HC, hHC⟩ : ∃ HC, HC = HP.put HS.next CC := ⟨_, rfl⟩
    rw [← hHC] at cp
    have bC : HC.base = H.base := by rw [hHC]; simp [bP]
    have hpC : HC.blk p = some ⟨57, 2, [iv room, sl HS.next n1]⟩ := by rw [hHC]; simp [hnbne.symm, hpP]
    have hnbC : HC.blk HS.next = some ⟨46, 2, CC⟩ := by rw [hHC]; simp [hnbP]
    have ldC : HC.load ⟨p, 1, none⟩ = some (sl HS.next n1) := by rw [load_at (by rw [B_eq bC]; exact g.hp) hpC]; rfl
    have ldEC : HC.loadN ⟨H.next, 0, none⟩ 0 2 = some (edv (r, w)) := by
      have m1 : H.next ≠ HS.next := by omega
      have m2 : H.next ≠ p := by omega
      have m3 : H.next ≠ HE.next := by omega
      have hxn : blkOf x ≠ some H.next := by
        intro hb
        have := g.own.lt hw hb
        omega
      have hE : HE.blk H.next = some ⟨46, 2, edv (r, w)⟩ := by rw [hHE]; simp
      have : HC.blk H.next = some ⟨46, 2, edv (r, w)⟩ := by
        rw [hHC, hHP, hHA]
        have m4 : H.next ≠ (HS.drop x).next := by rw [show (HS.drop x).next = HS.next by simp]; omega
        simp [m1, m2, m4, blk_drop, hxn]
        rw [hHS]
        simp [m3, hE]
      rw [loadN_at (by rw [B_eq bC]; omega) this (by simp [edv])]
      rfl
    have hidx : sIdx 2 (sl HS.next n1) (iv i) = some (.pointer (some ⟨HS.next, i * 2, none⟩)) := by
      have : i < n1 := by omega
      simp [sIdx, add_own, this]
    have hCl : CC.length = n1 * 2 := by
      have hl2 := cells_len (L.drop i)
      rw [List.length_drop] at hl2
      rw [hCC]
      simp only [List.length_append, List.length_take, hcl, hl2, List.length_cons, List.length_nil]
      omega
    have stF : sStore HC 2 (.pointer (some ⟨HS.next, i * 2, none⟩)) (.agg (edv (r, w)).toArray) = some (HC.put HS.next (((L.take i ++ (r, w) :: L.drop i).map edv).flatten)) := by
      rw [sStore_agg HC ⟨HS.next, i * 2, none⟩ 2 (edv (r, w)) rfl (by decide), storeN_at (by rw [B_eq bC]; omega) hnbC (by simp [edv, hCl]; omega)]
      congr 2
      simp only [Nat.add_zero]
      have e1 : CC.take (i * 2) = ((L.take i).map edv).flatten := by
        rw [hCC, List.take_append_of_le_length (by simp only [List.length_take, List.length_append, hcl, List.length_cons, List.length_nil]; omega), List.take_take, List.take_append_of_le_length (by rw [hcl]; omega), show min (i * 2) (i1 * 2) = i * 2 by omega, cells_take]
      have e2 : CC.drop (i * 2 + (edv (r, w)).length) = ((L.drop i).map edv).flatten := by
        rw [hCC, List.drop_left' (by simp only [List.length_take, List.length_append, hcl, List.length_cons, List.length_nil, edv]; omega)]
      rw [e1, e2]
      simp
    obtain ⟨HF, hHF⟩ : ∃ HF, HF = HC.put HS.next (((L.take i ++ (r, w) :: L.drop i).map edv).flatten) := ⟨_, rfl⟩
    rw [← hHF] at stF
    simp only [edv] at st ldA hT stF ldEC
    rw [hx] at ld1 ap
    simp [L8, st, h1, h2, ldA]
    refine goT_of hT ?_
    simp [ld0, ld1, hr2, hz, ← hHS, ap, stP, ldP, c1, s1, s2, cp, ldC, ldEC, hidx, stF]
    have bF : HF.base = H.base := by rw [hHF]; simp [bC]
    have nF : HF.next = HS.next + 1 := by rw [hHF, hHC, hHP]; simp [nA]
    have hlen : (L.take i ++ (r, w) :: L.drop i).length = n1 := by simp; omega
    have keepF : ∀ b, b < H.next → b ≠ p → blkOf x ≠ some b → HF.blk b = H.blk b := by
      intro b hb hbp hbx
      rw [← keep b hb, hHF, hHC, hHP, hHA]
      have m1 : b ≠ HS.next := by omega
      have m3 : b ≠ HE.next := by omega
      have m4 : b ≠ (HS.drop x).next := by rw [show (HS.drop x).next = HS.next by simp]; omega
      simp [m1, hbp, m4, blk_drop, hbx]
      rw [hHS]
      simp [m3]
    refine ⟨sl HS.next n1, ⟨by rw [B_eq bF]; exact g.hp, by rw [hHF]; simp [hnbne.symm, hpC], ?_, by simpa using hnbne, ins_ord g.ord hp hno, by rw [hlen]; omega⟩, ⟨?_, bF, by omega, keepF, ?_⟩⟩
    · rw [← hlen]
      exact Own.mk (by rw [cells_len]) (by rw [B_eq bF]; omega) (by rw [hHF]; simp [hnbC])
    · rw [hHF, hHC, hHP, hHA]
      exact WF_put (WF_put (WF_put (WF_new (WF_drop hwS _) _ _ _) _ _) _ _) _ _
    · intro b hb
      simp at hb
      right; omega
  obtain ⟨v, H', hT, rfl, x', h1, h2⟩ := this
  exact ⟨H', x', hT, h1, h2⟩
end Go.Proofs.Ytadegahkgpedgaa
