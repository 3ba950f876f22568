/-
  Chapter 23: the document's New, Has, Add, Remove; a call of both.
-/
import Derived.Test.YtadegahkgpedgaaSeatN
namespace Go.Proofs.Ytadegahkgpedgaa
open Go.Ot Go.RowKit
set_option linter.unusedSimpArgs false
set_option linter.unusedVariables false
/-- Memory stands: only new blocks. -/
structure On (H H1 : Heap) : Prop where
  wf : H1.WF
  base : H1.base = H.base
  next : H.next ≤ H1.next
  keep : ∀ b, b < H.next → H1.blk b = H.blk b
theorem On.refl {H : Heap} (h : H.WF) : On H H := ⟨h, rfl, Nat.le_refl _, fun _ _ => rfl⟩
theorem On.new {H H1 : Heap} (h : On H H1) (ty sz : Nat) (cs : List Value) : On H (H1.new ty sz cs) :=
  ⟨WF_new h.wf _ _ _, by simp [h.base], by have := h.next; simp; omega, fun b hb => by
    have h1 := h.next
    have : b ≠ H1.next := by omega
    simp [this, h.keep b hb]⟩
theorem On.trans {H H1 H2 : Heap} (h : On H H1) (h2 : On H1 H2) : On H H2 :=
  ⟨h2.wf, h2.base.trans h.base, Nat.le_trans h.next h2.next, fun b hb => by rw [h2.keep b (Nat.lt_of_lt_of_le hb h.next), h.keep b hb]⟩
theorem On.putNew {H H1 : Heap} (h : On H H1) (b : Nat) (cs : List Value) (hb : H.next ≤ b) : On H (H1.put b cs) :=
  ⟨WF_put h.wf _ _, h.base, h.next, fun c hc => by
    have : c ≠ b := by omega
    simp [this, h.keep c hc]⟩
def rv (room : Int) (x : Value) : List Value := [iv room, x]
/-- The document's graph: its edges in the order in which they came. -/
def UR (H : Heap) (x : Value) (U : List Ed) : Prop := Rws H 2 x (U.map edv)
theorem UR.on {H H1 : Heap} {x : Value} {U : List Ed} (hw : H.WF) (h : UR H x U) (o : On H H1) : UR H1 x U := Rws.keep hw o.base o.keep h
theorem rnew_T {H : Heap} (hw : H.WF) (room : Int) : ∃ H', T Try.prog 12 [iv room] H (.tuple #[.agg (if room < 1 ∨ 512 < room then rv 0 (.slice none 0 0) else rv room (.slice none 0 0)).toArray, iv (if room < 1 ∨ 512 < room then 161 else 0)]) H' ∧ On H H' := by
  have st := fun l hl => new_storeA hw 36 2 [iv 0, .slice none 0 0] l rfl hl (by decide)
  have ld := fun l hl => new_loadA hw 36 2 l hl
  by_cases h : room < 1 ∨ 512 < room
  · refine ⟨H.new 36 2 (rv 0 (.slice none 0 0)), ?_, (On.refl hw).new _ _ _⟩
    rw [if_pos h, if_pos h]
    refine T_eq hm light12 ?_
    have s1 := st (rv 0 (.slice none 0 0)) rfl
    have l1 := ld (rv 0 (.slice none 0 0)) rfl
    simp only [rv] at s1 l1 ⊢
    by_cases h1 : room < 1
    · simp [L12, h1, s1, l1]
    · have h2 : 512 < room := by omega
      simp [L12, h1, h2, s1, l1]
  · refine ⟨H.new 36 2 (rv room (.slice none 0 0)), ?_, (On.refl hw).new _ _ _⟩
    rw [if_neg h, if_neg h]
    refine T_eq hm light12 ?_
    have s1 := st (rv room (.slice none 0 0)) rfl
    have l1 := ld (rv room (.slice none 0 0)) rfl
    simp only [rv] at s1 l1 ⊢
    have h1 : ¬ room < 1 := by omega
    have h2 : ¬ 512 < room := by omega
    simp [L12, h1, h2, s1, l1]
def InvHs (HE : Heap) (b : Nat) (U : List Ed) (r w : Int) (k : Nat) (t : Tm) (H1 : Heap) : Prop :=
  ∃ i, i + k = U.length ∧ t 1 = iv r ∧ t 2 = iv w ∧ t 3 = ptr b ∧ t 7 = iv i ∧ (∀ q (h : q < U.length), q < i → U[q] ≠ (r, w)) ∧ H1 = HE
theorem rhas_T {H : Heap} (hw : H.WF) {room : Int} {x : Value} {U : List Ed} (hu : UR H x U) (r w : Int) (hl : U.length ≤ 100000) : T Try.prog 18 [.agg (rv room x).toArray, iv r, iv w] H (.bool (decide ((r, w) ∈ U))) H := by
  refine T_seen hm light18 rfl ?_
  have hc : (Value.agg (rv room x).toArray).cells.toList = rv room x := rfl
  obtain ⟨HE, hHE⟩ : ∃ HE, HE = H.new 36 2 (rv room x) := ⟨_, rfl⟩
  have on : On H HE := by rw [hHE]; exact (On.refl hw).new _ _ _
  have hu2 := hu.on hw on
  have ld1 : HE.load ⟨H.next, 1, none⟩ = some x := by rw [hHE, new_load hw 36 2 (rv room x)]; rfl
  obtain ⟨a, c, hx⟩ := hu2.len
  rw [List.length_map] at hx
  simp only [L18]
  simp [hc, ← hHE]
  refine ⟨rfl, ?_⟩
  refine loop_at (InvHs HE H.next U r w) U.length ?_ ?_
  · exact ⟨0, by omega, by simp, by simp, by simp, by simp, fun q _ h => absurd h (by omega), rfl⟩
  · rintro k t H1 ⟨i, hik, t1, t2, t3, t7, hno, rfl⟩
    cases k with
    | zero =>
      have e1 : ¬ ((i : Int) < U.length) := by omega
      have hnm : ¬ (r, w) ∈ U := by
        intro h
        obtain ⟨q, hq, he⟩ := List.getElem_of_mem h
        exact hno q hq (by omega) he
      rw [hx] at ld1
      simp [L18_1, t7, t3, ld1, e1]
      exact ⟨hnm, on.keep⟩
    | succ k =>
      have hil : i < U.length := by omega
      have e1 : ((i : Int) < U.length) := by omega
      obtain ⟨b, off, c2, hxe, hl2, _, hld⟩ := hu2.at (i := i) (by simpa using hil)
      rw [List.length_map] at hxe
      have l0 : H1.load ⟨b, off + i * 2, none⟩ = some (iv U[i].1) := by
        have := hld 0 (by rw [hl2]; decide)
        simpa [edv] using this
      have l1 : H1.load ⟨b, off + i * 2 + 1, none⟩ = some (iv U[i].2) := by
        have := hld 1 (by rw [hl2]; decide)
        simpa [edv] using this
      rw [hxe] at ld1
      have e4 : IntKind.i64.wrap ((i : Int) + 1) = ((i + 1 : Nat) : Int) := by rw [w64 _ (by omega)]; omega
      obtain ⟨iN, hiN⟩ : ∃ n : Nat, n = i + 1 := ⟨_, rfl⟩
      rw [← hiN] at e4
      have cont : U[i] ≠ (r, w) → ∀ t' : Tm, t' 1 = iv r → t' 2 = iv w → t' 3 = ptr H.next → t' 7 = iv iN → ∃ m, m < k + 1 ∧ InvHs H1 H.next U r w m t' (rdy H1) := by
        intro hne t' g1 g2 g3 g7
        refine ⟨k, by omega, iN, by omega, g1, g2, g3, g7, ?_, rfl⟩
        intro q hq hqi
        by_cases e : q = i
        · subst e; exact hne
        · exact hno q hq (by omega)
      by_cases h1 : U[i].1 = r
      · have b1 : (U[i].1 == r) = true := by simpa using h1
        by_cases h2 : U[i].2 = w
        · have b2 : (U[i].2 == w) = true := by simpa using h2
          have hmem : (r, w) ∈ U := by
            have : U[i] = (r, w) := by rw [← h1, ← h2]
            rw [← this]; exact List.getElem_mem hil
          simp [L18_1, t7, t3, ld1, e1, l0, l1, t1, t2, b1, b2]
          exact ⟨hmem, on.keep⟩
        · have b2 : (U[i].2 == w) = false := by simpa using h2
          simp [L18_1, t7, t3, ld1, e1, l0, l1, t1, t2, b1, b2, e4]
          exact cont (fun h => h2 (by rw [h])) _ (by simp [t1]) (by simp [t2]) (by simp [t3]) (by simp)
      · have b1 : (U[i].1 == r) = false := by simpa using h1
        simp [L18_1, t7, t3, ld1, e1, l0, l1, t1, t2, b1, e4]
        exact cont (fun h => h1 (by rw [h])) _ (by simp [t1]) (by simp [t2]) (by simp [t3]) (by simp)
/-- What Add answers. -/
def addC (S : List Ed) (room r w : Int) : Int := if w < 0 ∨ r ≤ w then 230 else if (r, w) ∈ S then 0 else if (S.length : Int) = room then 200 else 0
/-- Is an edge added? -/
def addI (S : List Ed) (room r w : Int) : Bool := !decide (w < 0 ∨ r ≤ w) && !decide ((r, w) ∈ S) && !decide ((S.length : Int) = room)
def addU (S : List Ed) (room r w : Int) : List Ed := if addI S room r w then S ++ [(r, w)] else S
theorem radd_T {H : Heap} (hw : H.WF) {room : Int} {x : Value} {U : List Ed} (hu : UR H x U) (r w : Int) (hl : U.length ≤ 10000) :
    ∃ v H', T Try.prog 28 [.agg (rv room x).toArray, iv r, iv w] H v H' ∧ ∃ x', v = .tuple #[.agg (rv room x').toArray, iv (addC U room r w)] ∧ UR H' x' (addU U room r w) ∧ On H H' ∧ ∀ b, blkOf x' = some b → (H.next ≤ b ∧ b < H'.next) ∨ blkOf x = some b := by
  refine T_by hm light28 ?_
  have hc : (Value.agg (rv room x).toArray).cells.toList = rv room x := rfl
  obtain ⟨HE, hHE⟩ : ∃ HE, HE = H.new 36 2 (rv room x) := ⟨_, rfl⟩
  have onE : On H HE := by rw [hHE]; exact (On.refl hw).new _ _ _
  have nE : HE.next = H.next + 1 := by rw [hHE]; simp
  obtain ⟨HF, hHF⟩ : ∃ HF, HF = HE.new 36 2 [iv 0, .slice none 0 0] := ⟨_, rfl⟩
  have onF : On H HF := by rw [hHF]; exact onE.new _ _ _
  have nF : HF.next = H.next + 2 := by rw [hHF]; simp [nE]
  have hnB := hw.next_ge
  have bF : HF.blk H.next = some ⟨36, 2, rv room x⟩ := by
    rw [hHF]
    have : H.next ≠ HE.next := by omega
    simp [this]
    rw [hHE]; simp
  have BF : ¬ H.next < HF.B := by rw [B_eq onF.base]; exact hnB
  have ldA : HF.loadN ⟨H.next, 0, none⟩ 0 2 = some (rv room x) := by rw [loadN_at BF bF (by simp [rv])]; rfl
  have ld0 : HF.load ⟨H.next, 0, none⟩ = some (iv room) := by rw [load_at BF bF]; rfl
  have ld1 : HF.load ⟨H.next, 1, none⟩ = some x := by rw [load_at BF bF]; rfl
  have stZ : ∀ H9 : Heap, H9.blk HE.next = some ⟨36, 2, [iv 0, .slice none 0 0]⟩ → H9.base = H.base → ∀ l : List Value, l.length = 2 → sStore H9 2 (ptr HE.next) (.agg l.toArray) = some (H9.put HE.next l) := by
    intro H9 hk hb l hl2
    rw [sStore_agg H9 ⟨HE.next, 0, none⟩ 2 l hl2 (by decide), storeN_at (by rw [B_eq hb]; omega) hk (by simp [hl2])]
    congr 2
    simp [hl2]
  have bZ : HF.blk HE.next = some ⟨36, 2, [iv 0, .slice none 0 0]⟩ := by rw [hHF]; simp
  have same : ∀ e : Int, ∃ HG, sStore HF 2 (ptr HE.next) (.agg (rv room x).toArray) = some HG ∧ HG.loadN ⟨HE.next, 0, none⟩ 0 2 = some (rv room x) ∧ On H HG ∧ UR HG x U := by
    intro e
    have o2 : On H (HF.put HE.next (rv room x)) := onF.putNew _ _ (by omega)
    refine ⟨_, stZ HF bZ onF.base (rv room x) rfl, ?_, o2, hu.on hw o2⟩
    rw [loadN_at (k := ⟨36, 2, rv room x⟩) (by rw [B_eq o2.base]; omega) (by simp [bZ]) (by simp [rv])]
    rfl
  have hu2 := hu.on hw onF
  obtain ⟨a, c, hx⟩ := hu2.len
  rw [List.length_map] at hx
  simp only [rv] at hc hHE ldA stZ same ⊢
  by_cases hbad : w < 0 ∨ r ≤ w
  · obtain ⟨HG, s1, l1, o1, u1⟩ := same 230
    have e1 : addC U room r w = 230 := by simp [addC, hbad]
    have e2 : addU U room r w = U := by simp [addU, addI, hbad]
    rw [e1, e2]
    by_cases h1 : w < 0
    · simp [L28, hc, ← hHE, ← hHF, h1, ldA, s1, l1]
      exact ⟨u1, o1, fun b hb => .inr hb⟩
    · have h2 : r ≤ w := by omega
      simp [L28, hc, ← hHE, ← hHF, h1, h2, ldA, s1, l1]
      exact ⟨u1, o1, fun b hb => .inr hb⟩
  · have h1 : ¬ w < 0 := by omega
    have h2 : ¬ r ≤ w := by omega
    have hT := rhas_T (room := room) onF.wf hu2 r w (by omega)
    simp only [rv] at hT
    by_cases hmem : (r, w) ∈ U
    · obtain ⟨HG, s1, l1, o1, u1⟩ := same 0
      have e1 : addC U room r w = 0 := by simp [addC, hbad, hmem]
      have e2 : addU U room r w = U := by simp [addU, addI, hmem]
      rw [e1, e2]
      rw [show decide ((r, w) ∈ U) = true by simpa using hmem] at hT
      simp [L28, hc, ← hHE, ← hHF, h1, h2, ldA]
      refine goT_of hT ?_
      simp [ldA, s1, l1]
      exact ⟨u1, o1, fun b hb => .inr hb⟩
    · rw [show decide ((r, w) ∈ U) = false by simpa using hmem] at hT
      rw [hx] at ld1
      by_cases hfull : (U.length : Int) = room
      · obtain ⟨HG, s1, l1, o1, u1⟩ := same 200
        have e1 : addC U room r w = 200 := by simp [addC, hbad, hmem, hfull]
        have e2 : addU U room r w = U := by simp [addU, addI, hfull]
        rw [e1, e2]
        have bb : ((U.length : Int) == room) = true := by simpa using hfull
        simp [L28, hc, ← hHE, ← hHF, h1, h2, ldA]
        refine goT_of hT ?_
        simp [ldA, ld0, ld1, bb, s1, l1]
        exact ⟨u1, o1, fun b hb => .inr hb⟩
      · have e1 : addC U room r w = 0 := by simp [addC, hbad, hmem, hfull]
        have e2 : addU U room r w = U ++ [(r, w)] := by simp [addU, addI, hbad, hmem, hfull]
        rw [e1, e2]
        have bb : ((U.length : Int) == room) = false := by simpa using hfull
        -- an empty row, the old edges, the new one
        obtain ⟨HG, hHG⟩ : ∃ HG, HG = HF.new 54 2 [] := ⟨_, rfl⟩
        have hnF := onF.wf.next_ge
        have row0 : Row HF HG 54 2 0 [] (.slice (some ⟨HF.next, 0, none⟩) 0 0) := by
          refine ⟨Own.mk rfl ?_ ?_, ?_, ?_, ?_, ?_, ?_⟩
          · rw [hHG]; simpa using hnF
          · rw [hHG]; simp
          · rw [hHG]; exact WF_new onF.wf _ _ _
          · rw [hHG]; simp
          · rw [hHG]; simp
          · intro b hb; simp at hb; omega
          · intro b hb
            rw [hHG]
            have : b ≠ HF.next := by omega
            simp [this]
        have rowU : ∃ y H3, sAppend HG 54 2 16 (.slice (some ⟨HF.next, 0, none⟩) 0 0) x = some (y, H3) ∧ Row HF H3 54 2 U.length (U.map edv).flatten y := by
          have hu3 : UR HG x U := Rws.keep onF.wf row0.base row0.keep hu2
          by_cases hU : U = []
          · subst hU
            have hsrc : srcCells HG 2 x = some (0, []) := by
              rw [hx]
              cases a with
              | none =>
                rcases hu2 with ⟨h, _⟩ | ⟨b, off, c', h, _⟩
                · rw [hx] at h; cases h; rfl
                · rw [hx] at h; cases h
              | some a => rw [srcCells_slice]; simp [Heap.loadN]
            refine ⟨_, HG, append_none hsrc (.inl rfl), row0⟩
          · have hpos : 0 < U.length := List.length_pos_iff.2 hU
            have hsrc : srcCells HG 2 x = some (U.length, (U.map edv).flatten) := by
              rcases hu3 with ⟨_, h⟩ | ⟨b, off, c', h, hld⟩
              · exfalso; exact hU (by simpa using h)
              · rw [h, srcCells_slice, List.length_map]
                have hfl := cells_len U
                have := loadN_cells (H := HG) (b := b) (off := off) (l := (U.map edv).flatten) (i := 0) (fun j hj => by
                  rw [hfl] at hj
                  have hj2 : j / 2 < U.length := by omega
                  obtain ⟨hq1, hq2⟩ := hld (j / 2) (by simpa using hj2)
                  have hq3 := hq2 (j % 2) (by rw [hq1]; omega)
                  have hfg := flatten_get (sz := 2) (l := U.map edv) (by intro r' hr'; obtain ⟨e, _, rfl⟩ := List.mem_map.1 hr'; rfl) (i := j / 2) (by simpa using hj2) (j := j % 2) (by rw [hq1]; omega)
                  have hjj : j / 2 * 2 + j % 2 = j := by omega
                  rw [hjj] at hfg
                  have hjl : j < (U.map edv).flatten.length := by rw [hfl]; omega
                  rw [List.getElem?_eq_getElem hjl] at hfg
                  have : off + 0 + j = off + j / 2 * 2 + j % 2 := by omega
                  rw [this, hq3]
                  exact hfg.symm)
                rw [hfl] at this
                rw [this]
                rfl
            refine ⟨_, _, append_any row0.own hsrc (by omega) (by omega), ?_⟩
            have nG : HG.next = HF.next + 1 := by rw [hHG]; simp
            refine ⟨?_, WF_new (WF_drop row0.wf _) _ _ _, by simp [row0.base], by simp [nG]; omega, fun b hb => by simp at hb; omega, fun b hb => ?_⟩
            · rw [Nat.zero_add, List.nil_append]
              exact Own.mk (by rw [cells_len]) (by simp [B_eq row0.base, nG]; omega) (by simp)
            · have m1 : b ≠ HG.next := by omega
              have m2 : ¬ HF.next = b := by omega
              simp [m1, blk_drop, m2, row0.keep b hb]
        obtain ⟨y, H3, ap1, row1⟩ := rowU
        obtain ⟨HA, ap2, row2⟩ := row1.push (edv (r, w)) rfl (by decide) 16 (by omega)
        have onA : On H HA := onF.trans ⟨row2.wf, row2.base, row2.next, row2.keep⟩
        have bA : HA.blk H.next = some ⟨36, 2, rv room x⟩ := by rw [row2.keep _ (by omega)]; exact bF
        have bZA : HA.blk HE.next = some ⟨36, 2, [iv 0, .slice none 0 0]⟩ := by rw [row2.keep _ (by omega)]; exact bZ
        obtain ⟨x', hx'⟩ : ∃ x' : Value, x' = .slice (some ⟨H3.next + 1, 0, none⟩) (U.length + 1) 0 := ⟨_, rfl⟩
        rw [← hx'] at ap2 row2
        obtain ⟨HP, hHP⟩ : ∃ HP, HP = HA.put H.next (rv room x') := ⟨_, rfl⟩
        have stP : HA.store ⟨H.next, 1, none⟩ x' = some HP := by
          rw [store_own (by rw [B_eq onA.base]; exact hnB) bA, if_pos (by simp [rv]), hHP]
          rfl
        have onP : On H HP := by rw [hHP]; exact onA.putNew _ _ (Nat.le_refl _)
        have bP : HP.blk H.next = some ⟨36, 2, rv room x'⟩ := by rw [hHP]; simp [bA]
        have bZP : HP.blk HE.next = some ⟨36, 2, [iv 0, .slice none 0 0]⟩ := by
          rw [hHP]
          have : HE.next ≠ H.next := by omega
          simp [this, bZA]
        have ldP : HP.loadN ⟨H.next, 0, none⟩ 0 2 = some (rv room x') := by rw [loadN_at (by rw [B_eq onP.base]; exact hnB) bP (by simp [rv])]; rfl
        have stQ := stZ HP bZP onP.base (rv room x') rfl
        obtain ⟨HQ, hHQ⟩ : ∃ HQ, HQ = HP.put HE.next (rv room x') := ⟨_, rfl⟩
        rw [← hHQ] at stQ
        have onQ : On H HQ := by rw [hHQ]; exact onP.putNew _ _ (by omega)
        have ldQ : HQ.loadN ⟨HE.next, 0, none⟩ 0 2 = some (rv room x') := by
          rw [loadN_at (k := ⟨36, 2, rv room x'⟩) (by rw [B_eq onQ.base]; omega) (by rw [hHQ]; simp [bZP]) (by simp [rv])]
          rfl
        have uQ : UR HQ x' (U ++ [(r, w)]) := by
          have hown : Own HQ 54 2 (U ++ [(r, w)]).length ((U ++ [(r, w)]).map edv).flatten x' := by
            rw [snoc_len, snoc_cells]
            refine row2.own.keep (B_eq (by rw [onQ.base, onA.base])) (fun b hb => ?_)
            have hge := row2.new b hb
            rw [hHQ, hHP]
            have m1 : b ≠ H.next := by omega
            have m2 : b ≠ HE.next := by omega
            simp [m1, m2]
          exact Own.rws (ety := 54) (by intro r' hr'; obtain ⟨e, _, rfl⟩ := List.mem_map.1 hr'; rfl) (by rw [List.length_map]; exact hown)
        have hz0 : zerosA [iv 0, iv 0] 0 = [] := rfl
        have hz2 : zerosA [iv 0, iv 0] 2 = [iv 0, iv 0] := rfl
        have ld1G : HG.load ⟨H.next, 1, none⟩ = some (.slice a U.length c) := by rw [load_frame row0.base (row0.keep _ (by omega))]; exact ld1
        rw [hx] at ap1
        simp only [rv, edv] at ap2 ldP stQ ldQ
        have hsl : ∃ n, x' = .slice (some ⟨H3.next + 1, 0, none⟩) n 0 := ⟨_, hx'⟩
        obtain ⟨n9, hn9⟩ := hsl
        have stP' : sStore HA 1 (.pointer (some ⟨H.next, 1, none⟩)) x' = some HP := by rw [hn9] at stP ⊢; rw [sStore_slice]; exact stP
        have hnt : notTup x' = true := by rw [hn9]; rfl
        simp [L28, hc, ← hHE, ← hHF, h1, h2, ldA]
        refine goT_of hT ?_
        simp [ld0, ld1, bb, hz0, hz2, ← hHG, ld1G, ap1, ap2, stP', hnt, ldP, stQ, ldQ]
        exact ⟨uQ, onQ, fun b hb => .inl ⟨by have := row2.new b hb; omega, by rw [hHQ, hHP]; exact row2.own.lt row2.wf hb⟩⟩
end Go.Proofs.Ytadegahkgpedgaa
