/-
  Chapter 23: a call of both.
-/
import Derived.Test.YtadegahkgpedgaaSeatP
namespace Go.Proofs.Ytadegahkgpedgaa
open Go.Ot Go.RowKit
set_option linter.unusedSimpArgs false
set_option linter.unusedVariables false
structure Op where
  k : Int
  r : Int
  w : Int
def Op.cells (o : Op) : List Value := [iv o.k, iv o.r, iv o.w]
def isR (k : Int) : Bool := decide ((k.tmod 4 + 4).tmod 4 = 3)
def opU (S : List Ed) (room : Int) (o : Op) : List Ed := if isR o.k then S.filter (offE o.w) else addU S room o.r o.w
theorem addC_perm {L U : List Ed} (h : L.Perm U) (room r w : Int) : addC L room r w = addC U room r w := by
  unfold addC
  rw [h.length_eq]
  have := h.mem_iff (a := (r, w))
  by_cases h1 : (r, w) ∈ L
  · have h2 := this.1 h1
    simp [h1, h2]
  · have h2 : (r, w) ∉ U := fun h => h1 (this.2 h)
    simp [h1, h2]
theorem addI_perm {L U : List Ed} (h : L.Perm U) (room r w : Int) : addI L room r w = addI U room r w := by
  unfold addI
  rw [h.length_eq]
  have := h.mem_iff (a := (r, w))
  by_cases h1 : (r, w) ∈ L
  · have h2 := this.1 h1
    simp [h1, h2]
  · have h2 : (r, w) ∉ U := fun h => h1 (this.2 h)
    simp [h1, h2]
theorem opU_perm {L U : List Ed} (h : L.Perm U) (room : Int) (o : Op) : (opU L room o).Perm (opU U room o) := by
  unfold opU
  split
  · exact h.filter _
  · unfold addU
    rw [addI_perm h]
    split
    · exact h.append_right _
    · exact h
structure OneV (H : Heap) (p : Nat) (room : Int) (L U : List Ed) (o : Op) (x xr : Value) (v : Value) (H' : Heap) : Prop where
  ans : ∃ xr' ok x' L', v = .tuple #[.agg (rv room xr').toArray, .bool ok] ∧ (L.Perm U → ok = true) ∧ GR H' p room L' x' ∧ L'.Perm (opU L room o) ∧ UR H' xr' (opU U room o) ∧ (∀ b, blkOf xr' = some b → b ≠ p ∧ blkOf x' ≠ some b) ∧ (∀ b, blkOf xr' = some b → blkOf xr = some b ∨ (H.next ≤ b ∧ b < H'.next)) ∧ Aft H H' p x x'
theorem one_T {H : Heap} (hw : H.WF) {p : Nat} {room : Int} {L U : List Ed} {x xr : Value} (gr : GR H p room L x) (hu : UR H xr U) (hsep : ∀ b, blkOf xr = some b → b ≠ p ∧ blkOf x ≠ some b ∧ b < H.next) (o : Op) (hL : L.length < 1000) (hU : U.length < 1000) :
    ∃ v H', T Try.prog 13 [ptr p, .agg (rv room xr).toArray, .agg o.cells.toArray] H v H' ∧ OneV H p room L U o x xr v H' := by
  refine T_by hm light13 ?_
  have hnB := hw.next_ge
  have hpn := hw.lt gr.bp
  have hxn : ∀ b, blkOf x = some b → b < H.next := fun b hb => gr.own.lt hw hb
  have hc1 : (Value.agg (rv room xr).toArray).cells.toList = rv room xr := rfl
  have hc2 : (Value.agg o.cells.toArray).cells.toList = o.cells := rfl
  obtain ⟨HA, hHA⟩ : ∃ HA, HA = H.new 36 2 (rv room xr) := ⟨_, rfl⟩
  have nA : HA.next = H.next + 1 := by rw [hHA]; simp
  have onA : On H HA := by rw [hHA]; exact (On.refl hw).new _ _ _
  obtain ⟨HB, hHB⟩ : ∃ HB, HB = HA.new 42 3 o.cells := ⟨_, rfl⟩
  have nB : HB.next = H.next + 2 := by rw [hHB]; simp [nA]
  have onB : On H HB := by rw [hHB]; exact onA.new _ _ _
  obtain ⟨HC, hHC⟩ : ∃ HC, HC = HB.new 36 2 [iv 0, .slice none 0 0] := ⟨_, rfl⟩
  have nC : HC.next = H.next + 3 := by rw [hHC]; simp [nB]
  have onC : On H HC := by rw [hHC]; exact onB.new _ _ _
  have k4 : HC.blk H.next = some ⟨36, 2, rv room xr⟩ := by
    rw [hHC]; have : H.next ≠ HB.next := by omega
    simp [this]
    rw [hHB]; have : H.next ≠ HA.next := by omega
    simp [this]
    rw [hHA]; simp
  have k5 : HC.blk (H.next + 1) = some ⟨42, 3, o.cells⟩ := by
    rw [hHC]; have : H.next + 1 ≠ HB.next := by omega
    simp [this]
    rw [hHB, ← nA]; simp
  have k6 : HC.blk (H.next + 2) = some ⟨36, 2, [iv 0, .slice none 0 0]⟩ := by rw [hHC, ← nB]; simp
  have at5 : ∀ H9 : Heap, On HC H9 → H9.load ⟨H.next + 1, 0, none⟩ = some (iv o.k) ∧ H9.load ⟨H.next + 1, 1, none⟩ = some (iv o.r) ∧ H9.load ⟨H.next + 1, 2, none⟩ = some (iv o.w) := by
    intro H9 h9
    have hb : ¬ H.next + 1 < H9.B := by rw [B_eq (h9.base.trans onC.base)]; omega
    have hk : H9.blk (H.next + 1) = some ⟨42, 3, o.cells⟩ := by rw [h9.keep _ (by omega)]; exact k5
    refine ⟨?_, ?_, ?_⟩ <;> rw [load_at hb hk] <;> rfl
  have lc4 : HC.loadN ⟨H.next, 0, none⟩ 0 2 = some (rv room xr) := by rw [loadN_at (by rw [B_eq onC.base]; exact hnB) k4 (by simp [rv])]; rfl
  obtain ⟨l50, l51, l52⟩ := at5 HC (On.refl onC.wf)
  have huC := hu.on hw onC
  have grC := gr.keep hw onC.base onC.keep
  -- behind the document's call: the answer laid down, the program's call, the store
  have tail : ∀ (HD : Heap) (U' : List Ed) (xr' : Value), On HC HD → UR HD xr' U' → (∀ b, blkOf xr' = some b → (HC.next ≤ b ∧ b < HD.next) ∨ blkOf xr = some b) →
      ∃ HE, sStore (HD.new 36 2 [iv 0, .slice none 0 0]) 2 (ptr HD.next) (.agg (rv room xr').toArray) = some HE ∧ On HC HE ∧ GR HE p room L x ∧ HE.loadN ⟨HD.next, 0, none⟩ 0 2 = some (rv room xr') ∧
        ∀ HF x' L', GR HF p room L' x' → Aft HE HF p x x' → HF.loadN ⟨HD.next, 0, none⟩ 0 2 = some (rv room xr') ∧ ∃ HG, sStore HF 2 (ptr (H.next + 2)) (.agg (rv room xr').toArray) = some HG ∧ HG.loadN ⟨H.next + 2, 0, none⟩ 0 2 = some (rv room xr') ∧
          GR HG p room L' x' ∧ UR HG xr' U' ∧ (∀ b, blkOf xr' = some b → b ≠ p ∧ blkOf x' ≠ some b) ∧ (∀ b, blkOf xr' = some b → blkOf xr = some b ∨ (H.next ≤ b ∧ b < HG.next)) ∧ Aft H HG p x x' := by
    intro HD U' xr' onD uD hxr
    have nD := onD.next
    have hnD := onD.wf.next_ge
    refine ⟨HD.new 36 2 (rv room xr'), new_storeA onD.wf 36 2 _ _ rfl rfl (by decide), onD.new _ _ _, ?_, new_loadA onD.wf 36 2 _ rfl, ?_⟩
    · have o2 := onC.trans (onD.new 36 2 (rv room xr'))
      exact gr.keep hw o2.base o2.keep
    · intro HF x' L' grF aft
      have o2 := onD.new 36 2 (rv room xr')
      have oH := onC.trans o2
      have bF : HF.base = H.base := aft.base.trans oH.base
      have keepF : ∀ b, b < HD.next + 1 → b ≠ p → blkOf x ≠ some b → HF.blk b = (HD.new 36 2 (rv room xr')).blk b := fun b hb h1 h2 => aft.keep b (by simpa using hb) h1 h2
      have kD : HF.blk HD.next = some ⟨36, 2, rv room xr'⟩ := by
        rw [keepF _ (by omega) (by omega) (fun h => by have := hxn _ h; omega)]; simp
      have k6F : HF.blk (H.next + 2) = some ⟨36, 2, [iv 0, .slice none 0 0]⟩ := by
        rw [keepF _ (by omega) (by omega) (fun h => by have := hxn _ h; omega)]
        rw [o2.keep _ (by omega)]; exact k6
      refine ⟨by rw [loadN_at (by rw [B_eq bF]; omega) kD (by simp [rv])]; rfl, HF.put (H.next + 2) (rv room xr'), ?_, ?_, ?_, ?_, ?_, ?_, ?_⟩
      · rw [sStore_agg HF ⟨H.next + 2, 0, none⟩ 2 (rv room xr') rfl (by decide), storeN_at (by rw [B_eq bF]; omega) k6F (by simp [rv])]
        rfl
      · rw [loadN_at (k := ⟨36, 2, rv room xr'⟩) (by show ¬ _ < HF.B; rw [B_eq bF]; omega) (by simp [k6F]) (by simp [rv])]
        rfl
      · have hx6 : ∀ b, blkOf x' = some b → b ≠ H.next + 2 := by
          intro b hb
          rcases aft.new b hb with h | h
          · have := hxn b h; omega
          · simp at h; omega
        refine ⟨grF.hp, ?_, grF.own.keep rfl (fun b hb => ?_), grF.px, grF.ord, grF.len⟩
        · have : p ≠ H.next + 2 := by omega
          simp [this, grF.bp]
        · simp [hx6 b hb]
      · have uF : UR HF xr' U' := by
          have kD2 : ∀ b, b < HD.next → (HD.new 36 2 (rv room xr')).blk b = HD.blk b := by
            intro b hb
            have : b ≠ HD.next := by omega
            simp [this]
          have u2 : UR (HD.new 36 2 (rv room xr')) xr' U' := Rws.keep onD.wf (by simp) kD2 uD
          rcases u2 with h | ⟨b, off, c, h, hh⟩
          · exact .inl h
          · refine .inr ⟨b, off, c, h, fun i hi => ⟨(hh i hi).1, fun j hj => ?_⟩⟩
            have hl := (hh i hi).2 j hj
            have hbx : blkOf xr' = some b := by rw [h]; rfl
            have hbn := load_lt o2.wf hl
            rw [load_frame aft.base]
            · exact hl
            · rcases hxr b hbx with h1 | h1
              · exact aft.keep b hbn (by omega) (fun h2 => by have := hxn _ h2; omega)
              · obtain ⟨s1, s2, s3⟩ := hsep b h1
                exact aft.keep b hbn s1 s2
        rcases uF with h | ⟨b, off, c, h, hh⟩
        · exact .inl h
        · refine .inr ⟨b, off, c, h, fun i hi => ⟨(hh i hi).1, fun j hj => ?_⟩⟩
          have hl := (hh i hi).2 j hj
          have hbx : blkOf xr' = some b := by rw [h]; rfl
          rw [load_frame (H := HF) (by rfl)]
          · exact hl
          · have : b ≠ H.next + 2 := by
              rcases hxr b hbx with h1 | h1
              · omega
              · have := (hsep b h1).2.2; omega
            simp [this]
      · intro b hb
        rcases hxr b hb with h1 | h1
        · refine ⟨by omega, fun h2 => ?_⟩
          rcases aft.new b h2 with h3 | h3
          · have := hxn b h3; omega
          · simp at h3; omega
        · obtain ⟨s1, s2, s3⟩ := hsep b h1
          refine ⟨s1, fun h2 => ?_⟩
          rcases aft.new b h2 with h3 | h3
          · exact s2 h3
          · simp at h3; omega
      · intro b hb
        have hnx := aft.next
        simp at hnx
        rcases hxr b hb with h1 | h1
        · right
          refine ⟨by omega, ?_⟩
          show b < HF.next
          omega
        · exact .inl h1
      · refine ⟨WF_put aft.wf _ _, by rw [← bF]; rfl, ?_, ?_, ?_⟩
        · have := aft.next
          simp at this
          show H.next ≤ HF.next
          omega
        · intro b hb h1 h2
          have : b ≠ H.next + 2 := by omega
          simp [this]
          rw [keepF b (by omega) h1 h2, o2.keep b (by omega), onC.keep b hb]
        · intro b hb
          rcases aft.new b hb with h3 | h3
          · exact .inl h3
          · right; simp at h3; omega
  obtain ⟨k1, hk1⟩ : ∃ k1, k1 = o.k.tmod 4 := ⟨_, rfl⟩
  have kb := Int.tmod_lt_of_pos o.k (show (0 : Int) < 4 by decide)
  have kb2 := Int.lt_tmod_of_pos o.k (show (0 : Int) < 4 by decide)
  have r1 : sBin .rem (iv o.k) (iv 4) = some (iv k1) := by rw [sBin_rem, if_neg (by decide), hk1]
  obtain ⟨k2, hk2⟩ : ∃ k2, k2 = k1 + 4 := ⟨_, rfl⟩
  have c2 : IntKind.i64.wrap (k1 + 4) = k2 := by rw [w64 _ (by omega)]; omega
  obtain ⟨k3, hk3⟩ : ∃ k3, k3 = k2.tmod 4 := ⟨_, rfl⟩
  have r3 : sBin .rem (iv k2) (iv 4) = some (iv k3) := by rw [sBin_rem, if_neg (by decide), hk3]
  have hR : isR o.k = decide (k3 = 3) := by rw [hk3, hk2, hk1]; rfl
  have boxes : ∀ H9 : Heap, On HC H9 → True := fun _ _ => trivial
  by_cases h3 : k3 = 3
  · have hRt : isR o.k = true := by rw [hR]; simpa using h3
    obtain ⟨v1, HD, hT, xr', rfl, uD, onD, hxr⟩ := rremove_T (room := room) onC.wf huC o.w (by omega)
    obtain ⟨HE, s1, onE, grE, ldE, fin⟩ := tail HD _ xr' onD uD hxr
    obtain ⟨HF, x', hT2, grF, aft⟩ := remove_T onE.wf grE o.w
    obtain ⟨ldF, HG, s2, ldG, grG, uG, sepG, newG, aftG⟩ := fin HF x' _ grF aft
    obtain ⟨l60, l61, l62⟩ := at5 HE onE
    obtain ⟨nU, hnU⟩ : ∃ n, n = ((U.length - (U.filter (offE o.w)).length : Nat) : Int) := ⟨_, rfl⟩
    obtain ⟨nL, hnL⟩ : ∃ n, n = ((L.length - (L.filter (offE o.w)).length : Nat) : Int) := ⟨_, rfl⟩
    rw [← hnU] at hT
    rw [← hnL] at hT2
    have hT' := hT
    simp [L13, hc1, hc2, ← hHA, nA, ← hHB, nB, ← hHC, l50, r1, c2, r3, h3, lc4, l52]
    refine ⟨rfl, rfl, ?_⟩
    refine goT_of hT' ?_
    simp [s1, ldE, l62]
    refine goT_of hT2 ?_
    simp [ldF, s2, ldG]
    refine ⟨xr', _, x', L.filter (offE o.w), rfl, fun hp => ?_, grG, by unfold opU; rw [hRt]; exact List.Perm.refl _, by unfold opU; rw [hRt]; exact uG, sepG, newG, aftG⟩
    rw [hnL, hnU, hp.length_eq, (hp.filter _).length_eq]
    simp
  · have hRf : isR o.k = false := by rw [hR]; simpa using h3
    obtain ⟨v1, HD, hT, xr', rfl, uD, onD, hxr⟩ := radd_T (room := room) onC.wf huC o.r o.w (by omega)
    obtain ⟨HE, s1, onE, grE, ldE, fin⟩ := tail HD _ xr' onD uD hxr
    obtain ⟨HF, x', L', hT2, grF, hpL, aft⟩ := add_T onE.wf grE o.r o.w (by omega)
    obtain ⟨ldF, HG, s2, ldG, grG, uG, sepG, newG, aftG⟩ := fin HF x' _ grF aft
    obtain ⟨l60, l61, l62⟩ := at5 HE onE
    obtain ⟨nU, hnU⟩ : ∃ n, n = addC U room o.r o.w := ⟨_, rfl⟩
    obtain ⟨nL, hnL⟩ : ∃ n, n = addC L room o.r o.w := ⟨_, rfl⟩
    rw [← hnU] at hT
    rw [← hnL] at hT2
    have hb3 : (k3 == 3) = false := by simpa using h3
    simp [L13, hc1, hc2, ← hHA, nA, ← hHB, nB, ← hHC, l50, r1, c2, r3, hb3, lc4, l51, l52]
    refine ⟨rfl, rfl, ?_⟩
    refine goT_of hT ?_
    simp [s1, ldE, l61, l62]
    refine goT_of hT2 ?_
    simp [ldF, s2, ldG]
    refine ⟨xr', _, x', L', rfl, fun hp => ?_, grG, by unfold opU; rw [hRf]; exact hpL, by unfold opU; rw [hRf]; exact uG, sepG, newG, aftG⟩
    rw [hnL, hnU, addC_perm hp]
    simp
end Go.Proofs.Ytadegahkgpedgaa
