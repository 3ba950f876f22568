/-
  Chapter 25: the document's reader: items within brackets.
-/
import Derived.Test.YtmdlfenileiaeaaSeatT
namespace Go.Proofs.Ytmdlfenileiaeaa
open Go.Ot Go.RowKit
set_option linter.unusedSimpArgs false
set_option linter.unusedVariables false
/-! ### plain: blanks behind items; what errors there are -/
theorem run_idem (p : Nat → Bool) (S : List Nat) : ∀ (n a : Nat), S.length - a = n → run p S (run p S a) = run p S a
  | 0, a, h => by rw [run_stop (a := a) (by omega), run_stop (a := a) (by omega)]
  | n + 1, a, h => by
    have ha : a < S.length := by omega
    by_cases hb : p S[a] = true
    · rw [run_yes ha hb]; exact run_idem p S n (a + 1) (by omega)
    · rw [run_no ha (by simpa using hb), run_no ha (by simpa using hb)]
theorem loopI_run {S : List Nat} {sub : Option (Nat → Res)} (hs : ∀ f, sub = some f → ∀ a, a ≤ S.length → ResOk S a (f a)) : ∀ (f a : Nat) (l : List Ent), a ≤ S.length → S.length < a + f → ∀ {l' : List Ent} {b : Nat}, loopI S sub f a l = .ok l' b → run isB S b = b
  | 0, a, l, ha, hf, l', b, h => by omega
  | f + 1, a, l, ha, hf, l', b, h => by
    unfold loopI at h
    have h1 := run_ge isB S a
    have h2 : run isB S a ≤ S.length := run_le ha
    cases hi : itemP S sub (run isB S a) with
    | none =>
      rw [hi] at h
      cases h
      exact run_idem isB S _ a rfl
    | some R =>
      cases R with
      | err e b => rw [hi] at h; cases h
      | ok one b =>
        rw [hi] at h
        obtain ⟨q1, q2, q3⟩ := itemP_ok hs hi
        simp only at h
        cases hr : repP S b l one with
        | err e b => rw [hr] at h; cases h
        | ok l2 b2 =>
          rw [hr] at h
          obtain ⟨q4, q5, q6⟩ := repP_ok q3 hr
          exact loopI_run hs f b2 l2 q6 (by omega) h
theorem items_run (S : List Nat) : ∀ (k a : Nat), a ≤ S.length → ∀ {l : List Ent} {b : Nat}, items S k a = .ok l b → run isB S b = b
  | 0, a, ha, l, b, h => loopI_run (sub := none) (fun f h => by cases h) _ _ _ ha (by omega) h
  | k + 1, a, ha, l, b, h => loopI_run (sub := some (items S k)) (fun f h => by cases h; exact items_ok S k) _ _ _ ha (by omega) h
theorem repP_err {S : List Nat} {a : Nat} {l one : List Ent} {e : Int} {b : Nat} (h : repP S a l one = .err e b) : e ≠ 0 := by
  have go : ∀ many a2, repGo a l one many a2 = .err e b → e ≠ 0 := by
    intro many a2 h
    unfold repGo at h
    split at h
    · cases h; decide
    · cases h
  unfold repP at h
  split at h
  · split at h
    · exact go _ _ h
    · cases h; decide
  · exact go _ _ h
theorem itemP_err {S : List Nat} {sub : Option (Nat → Res)} (hs : ∀ f, sub = some f → ∀ a e b, f a = .err e b → e ≠ 0) {a : Nat} {e : Int} {b : Nat} (h : itemP S sub a = some (.err e b)) : e ≠ 0 := by
  have num : ∀ a ab, numP S a ab = .err e b → e ≠ 0 := by
    intro a ab h
    unfold numP at h
    split at h
    · cases h
    · cases h; decide
  unfold itemP at h
  split at h
  · have h := Option.some.inj h
    unfold brP at h
    cases sub with
    | none => cases h; decide
    | some f =>
      simp only at h
      split at h
      · rename_i hf
        cases h
        exact hs f rfl _ _ _ hf
      · split at h
        · cases h
        · cases h; decide
  · split at h
    · exact num _ _ (Option.some.inj h)
    · split at h
      · exact num _ _ (Option.some.inj h)
      · cases h
theorem loopI_err {S : List Nat} {sub : Option (Nat → Res)} (hs : ∀ f, sub = some f → ∀ a e b, f a = .err e b → e ≠ 0) : ∀ (f a : Nat) (l : List Ent) {e : Int} {b : Nat}, loopI S sub f a l = .err e b → e ≠ 0
  | 0, a, l, e, b, h => by cases h
  | f + 1, a, l, e, b, h => by
    unfold loopI at h
    split at h
    · cases h
    · rename_i hi
      cases h
      exact itemP_err hs hi
    · split at h
      · rename_i hr
        cases h
        exact repP_err hr
      · exact loopI_err hs f _ _ h
theorem items_err (S : List Nat) : ∀ (k a : Nat) {e : Int} {b : Nat}, items S k a = .err e b → e ≠ 0
  | 0, a, e, b, h => loopI_err (sub := none) (fun f h => by cases h) _ _ _ h
  | k + 1, a, e, b, h => loopI_err (sub := some (items S k)) (fun f h => by cases h; exact fun a e b h => items_err S k a h) _ _ _ h
/-! ### the walk -/
theorem TwoV.onto {H G G' : Heap} {p o : Nat} {s : ByteArray} {a e w : Int} (h : TwoV H G p o s a e w) (g : On G G') : TwoV H G' p o s a e w := by
  obtain ⟨c2, v2, l2⟩ := h.vo
  exact ⟨h.on.trans g, h.vp.on h.on.wf g, ⟨c2, v2.on h.on.wf g, l2⟩, h.np, h.no, h.ne⟩
def RiQ (s : ByteArray) (H : Heap) (R : Res) (r : Out) (H' : Heap) : Prop :=
  On H H' ∧ match R with
  | .ok l a => ∃ x, r = .ret (.tuple #[pv s a 0 0, x]) ∧ Own H' 36 2 l.length (ec l) x ∧ ∀ b, blkOf x = some b → H.next ≤ b
  | .err e w => ∃ a' : Int, r = .ret (.tuple #[pv s a' e w, .slice none 0 0])
def SubR (s : ByteArray) (d : Nat) (sub : Option (Nat → Res)) : Prop := match sub with
  | none => d = 8
  | some f => d < 8 ∧ (∀ a, a ≤ (bts s).length → ResOk (bts s) a (f a)) ∧ (∀ a, a ≤ (bts s).length → ∀ l b, f a = .ok l b → run isB (bts s) b = b) ∧ (∀ a e b, f a = .err e b → e ≠ 0) ∧
      ∀ (H : Heap) (a : Nat), H.WF → a ≤ (bts s).length → TN Try.prog 25 [pv s a 0 0, iv (d + 1 : Nat)] H (RiQ s H (f a))
def blkC : LCode → LCode | .block _ c => c | c => c
def L25b : LCode := blkC (seqR L25_1)
def L25d : LCode := seqR (seqR (seqR (seqR L25b)))
theorem L25_1_eq : L25_1 = .seq (seqL L25_1) (.block 1 (.seq (seqL L25b) (.seq (seqL (seqR L25b)) (.seq (seqL (seqR (seqR L25b))) (.seq (seqL (seqR (seqR (seqR L25b)))) L25d))))) := rfl
def InvRi (s : ByteArray) (H : Heap) (p o d : Nat) (sub : Option (Nat → Res)) (RR : Res) (k : Nat) (t : Tm) (H1 : Heap) : Prop :=
  t 1 = iv d ∧ t 2 = ptr p ∧ t 4 = ptr o ∧
  ((∃ a l x, (bts s).length < a + k ∧ a ≤ (bts s).length ∧ l.length ≤ 40000 ∧ t 6 = x ∧ RR = loopI (bts s) sub k a l ∧ TwoV H H1 p o s a 0 0 ∧ Own H1 36 2 l.length (ec l) x ∧ (∀ b, blkOf x = some b → H.next ≤ b ∧ b ≠ p ∧ b ≠ o)) ∨
   (∃ a' e w, e ≠ 0 ∧ RR = .err e w ∧ t 6 = .slice none 0 0 ∧ TwoV H H1 p o s a' e (w : Nat)))
/-- Behind an item that is none. -/
theorem d_err {s : ByteArray} {H H1 : Heap} {p o : Nat} {a e w : Int} (V : TwoV H H1 p o s a e w) (he : e ≠ 0) {Q : Post} {t : Tm} (t2 : t 2 = ptr p) (t4 : t 4 = ptr o)
    (hQ : ∀ tt H', tt 4 = ptr o → tt 5 = .slice none 0 0 → H'.loadN ⟨o, 0, none⟩ 0 4 = some (pcs s a e w) → On H H' → Q .ret tt (rdy H')) : wpN Try.prog L25d Q t (rdy H1) := by
  have l2 := V.l2
  have lA := V.lA
  obtain ⟨q1, q2, q3⟩ := V.out s a e w
  have he1 : (e != 0) = true := by simpa using he
  simp [L25d, L25b, L25_1, seqR, blkC, t2, t4, l2, he1, he, lA, q1]
  exact hQ _ _ (by simp [t4]) (by simp) q2 q3
theorem d_ok {s : ByteArray} (hl : (bts s).length ≤ 100000) {H H1 : Heap} {p o d : Nat} {b : Nat} {l one : List Ent} {x y : Value} (V : TwoV H H1 p o s b 0 0) (hb : b ≤ (bts s).length)
    (ox : Own H1 36 2 l.length (ec l) x) (oy : Own H1 36 2 one.length (ec one) y) (xy : ∀ b, blkOf x = some b → blkOf y ≠ some b) (hl1 : l.length ≤ 40000) (hl2 : one.length ≤ 40000) (nx : ∀ b, blkOf x = some b → H.next ≤ b ∧ b ≠ p ∧ b ≠ o)
    {Q : Post} {t : Tm} (t1 : t 1 = iv d) (t2 : t 2 = ptr p) (t4 : t 4 = ptr o) (t6 : t 6 = x) (t7 : t 7 = y)
    (hQ : ∀ tt H', tt 1 = iv d → tt 2 = ptr p → tt 4 = ptr o → (match repP (bts s) b l one with
      | .ok l' a' => ∃ x', tt 6 = x' ∧ TwoV H H' p o s a' 0 0 ∧ Own H' 36 2 l'.length (ec l') x' ∧ (∀ b, blkOf x' = some b → H.next ≤ b ∧ b ≠ p ∧ b ≠ o)
      | .err e w => ∃ a', tt 6 = .slice none 0 0 ∧ TwoV H H' p o s a' e w) → Q .normal tt (rdy H')) : wpN Try.prog L25d Q t (rdy H1) := by
  have l2 := V.l2
  have lA := V.lA
  have rN := refRepeat_N V.on.wf ox oy xy hl1 hl2 hb hl
  obtain ⟨ax, hx⟩ := ox.len
  obtain ⟨ay, hy⟩ := oy.len
  have n1 : notTup x = true := by rw [hx]; rfl
  have n2 : notTup y = true := by rw [hy]; rfl
  simp [L25d, L25b, L25_1, seqR, blkC, t2, l2, lA, t6, t7]
  refine goN_of rN ?_
  rintro r H2 ⟨fw, hq⟩ w2 b2 n2
  have plt := V.on.wf.lt V.vp.bq
  obtain ⟨c2, v2, len2⟩ := V.vo
  have olt := V.on.wf.lt v2.bq
  have V2 : TwoV H H2 p o s b 0 0 := by
    refine ⟨⟨fw.wf, fw.base.trans V.on.base, Nat.le_trans V.on.next fw.next, fun c hc => ?_⟩, ?_, ⟨c2, ?_, len2⟩, V.np, V.no, V.ne⟩
    · rw [fw.keep c (by have := V.on.next; omega) (fun e => by have := (nx c e).1; omega), V.on.keep c hc]
    · exact V.vp.keep fw.base (fw.keep p plt (fun e => (nx p e).2.1 rfl))
    · exact v2.keep fw.base (fw.keep o olt (fun e => (nx o e).2.2 rfl))
  cases hr : repP (bts s) b l one with
  | ok l' a' =>
    rw [hr] at hq hQ
    obtain ⟨x', rfl, own', nx'⟩ := hq
    have sA := V2.sA (a' : Int) 0 0
    obtain ⟨ax', hx'⟩ := own'.len
    have n3 : notTup x' = true := by rw [hx']; rfl
    have nn : ∀ b, blkOf x' = some b → H.next ≤ b ∧ b ≠ p ∧ b ≠ o := by
      intro c hc
      rcases nx' c hc with h | h
      · exact nx c h
      · have := V.on.next
        exact ⟨by omega, by omega, by omega⟩
    simp [t2, sA]
    refine hQ _ _ (by simp [t1]) (by simp [t2]) (by simp [t4]) ⟨x', by simp, V2.put _ _ _, own'.keep rfl (fun c hc => by
      have := (nn c hc).2.1
      simp [this]), nn⟩
  | err e w =>
    rw [hr] at hq hQ
    obtain ⟨a', rfl⟩ := hq
    have sA := V2.sA a' e w
    simp [t2, sA]
    exact hQ _ _ (by simp [t1]) (by simp [t2]) (by simp [t4]) ⟨a', by simp, V2.put _ _ _⟩
end Go.Proofs.Ytmdlfenileiaeaa
