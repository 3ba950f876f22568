/-
  Part Zl: the runner goes through functions whose ends differ in the numbers of the new blocks.
-/
import Derived.Test.YtfmcnojojknkfaaOtZk
set_option linter.unusedVariables false
set_option linter.unusedSimpArgs false
namespace Go.Ot
open Go.RowKit
abbrev Prs := List (Nat × Nat)
def zipP (r : Value → Value → Prs) : List Value → List Value → Prs
  | a :: l, b :: m => r a b ++ zipP r l m
  | _, _ => []
/-- Which blocks stand at the same places. -/
def pairsV : Nat → Value → Value → Prs
  | 0, _, _ => []
  | n + 1, v, u => match v with
    | .pointer (some a) => match u with | .pointer (some b) => [(a.block, b.block)] | _ => []
    | .slice (some a) _ _ => match u with | .slice (some b) _ _ => [(a.block, b.block)] | _ => []
    | .map (some a) => match u with | .map (some b) => [(a, b)] | _ => []
    | .iface _ x => match u with | .iface _ y => pairsV n x y | _ => []
    | .agg xs => match u with | .agg ys => zipP (pairsV n) xs.toList ys.toList | _ => []
    | .tuple xs => match u with | .tuple ys => zipP (pairsV n) xs.toList ys.toList | _ => []
    | .func _ p q => match u with | .func _ p' q' => zipP (pairsV n) p.toList p'.toList ++ zipP (pairsV n) q.toList q'.toList | _ => []
    | _ => []
def asc : Prs → Nat → Option Nat
  | [], _ => none
  | p :: l, b => match Nat.beq p.1 b with | true => some p.2 | false => asc l b
theorem asc_mem : ∀ {l : Prs} {b x : Nat}, asc l b = some x → (b, x) ∈ l
  | [], _, _, h => by cases h
  | p :: l, b, x, h => by
    simp only [asc] at h
    split at h
    · rename_i hb
      cases h
      have : p.1 = b := Nat.eq_of_beq_eq_true hb
      subst this
      simp
    · exact List.mem_cons_of_mem _ (asc_mem h)
def closeP (n0 : Nat) (h1 h2 : CH) : Nat → Prs → Prs → Prs
  | 0, _, acc => acc
  | _ + 1, [], acc => acc
  | k + 1, p :: l, acc => match Nat.blt p.1 n0 with
    | true => closeP n0 h1 h2 k l acc
    | false => match asc acc p.1 with
      | some _ => closeP n0 h1 h2 k l acc
      | none => match h1.tr.get p.1, h2.tr.get p.2 with
        | some x, some y => closeP n0 h1 h2 k (zipP (pairsV 10) x.cells y.cells ++ l) (p :: acc)
        | _, _ => closeP n0 h1 h2 k l (p :: acc)
/-- The old blocks that have changed. -/
def chgd (h h1 h2 : CH) : Nat → Prs
  | 0 => []
  | n + 1 => match blkEq (h1.tr.get n) (h.tr.get n) with
    | true => chgd h h1 h2 n
    | false => match h1.tr.get n, h2.tr.get n with
      | some x, some y => zipP (pairsV 10) x.cells y.cells ++ chgd h h1 h2 n
      | _, _ => chgd h h1 h2 n
def prsOf (h : CH) (k : Nat) (v : Value) (h1 : CH) (u : Value) (h2 : CH) : Prs := closeP h.next h1 h2 k (pairsV 10 v u ++ chgd h h1 h2 h.next) []
def rebuild (g : Nat → Option Blk) : Nat → Tr Blk
  | 0 => .leaf
  | n + 1 => (rebuild g n).put n (g n)
theorem rebuild_get (g : Nat → Option Blk) : ∀ n b, (rebuild g n).get b = if b < n then g b else none
  | 0, b => by simp [rebuild, Tr.get]
  | n + 1, b => by
    rw [rebuild, Tr.get_put, rebuild_get g n b]
    by_cases h : b = n
    · subst h; simp
    · rw [if_neg h]
      by_cases h2 : b < n
      · rw [if_pos h2, if_pos (by omega)]
      · rw [if_neg h2, if_neg (by omega)]
/-- What is kept of an end. -/
def keepH (n0 : Nat) (π : Prs) (h1 : CH) : CH := ⟨h1.next, rebuild (fun b => match Nat.blt b n0 with
  | true => h1.tr.get b
  | false => match asc π b with | some _ => h1.tr.get b | none => none) h1.next⟩
def numF (n0 : Nat) (π : Prs) : Nat → Option Nat := fun b => match Nat.blt b n0 with | true => some b | false => asc π b
def dist : List Nat → Bool
  | [] => true
  | a :: l => l.all (fun b => !Nat.beq a b) && dist l
theorem dist_one : ∀ {l : Prs} {b b' x : Nat}, dist (l.map Prod.snd) = true → (b, x) ∈ l → (b', x) ∈ l → b = b'
  | [], _, _, _, _, h, _ => by cases h
  | p :: l, b, b', x, hd, h, h' => by
    simp only [List.map_cons, dist, Bool.and_eq_true, List.all_eq_true, List.mem_map, Bool.not_eq_true'] at hd
    have no : ∀ c, (c, p.2) ∈ l → False := fun c hc => by
      have := hd.1 p.2 ⟨(c, p.2), hc, rfl⟩
      simp at this
    rcases List.mem_cons.1 h with h1 | h1 <;> rcases List.mem_cons.1 h' with h2 | h2
    · rw [← h1] at h2; exact (Prod.mk.inj h2).1.symm
    · exact (no b' (by rw [← h1]; exact h2)).elim
    · exact (no b (by rw [← h2]; exact h1)).elim
    · exact dist_one hd.2 h1 h2
def allN (g : Nat → Bool) : Nat → Bool
  | 0 => true
  | n + 1 => g n && allN g n
theorem allN_of {g : Nat → Bool} : ∀ {n : Nat}, allN g n = true → ∀ b, b < n → g b = true
  | 0, _, b, hb => by omega
  | n + 1, h, b, hb => by
    simp only [allN, Bool.and_eq_true] at h
    by_cases e : b = n
    · subst e; exact h.1
    · exact allN_of h.2 b (by omega)
def blkOk (f : Nat → Option Nat) (h1 h2 : CH) (b : Nat) : Bool := match h1.tr.get b with
  | none => true
  | some k => match f b with
    | some x => match h2.tr.get x with | some k2 => renB f k k2 | none => false
    | none => false
/-- Is an end like the one that stands for all? -/
def isoOk (h : CH) (lr : List LRes) (k : Nat) (v : Value) (h1 h1' : CH) (o : Exit × Tr Value × CH) : Bool :=
  (match o.1 with | .normal => true | .ret => true | _ => false) && match cresV (tmOf o.2.1) o.2.2 lr with
    | some vs => match prsOf h k v h1 (packV vs) o.2.2 with
      | π => dist (π.map Prod.snd) && π.all (fun p => Nat.ble h.next p.2 && Nat.blt p.1 h1'.next) && ren3 (numF h.next π) v (packV vs) && allN (blkOk (numF h.next π) h1' o.2.2) h1'.next
    | none => false
theorem iso_of {W : World} {h h1 h1' : CH} {lr : List LRes} {k : Nat} {v : Value} {o : Exit × Tr Value × CH} (hn : h.next ≤ h1'.next) (hlt : ∀ b x, h1'.tr.get b = some x → b < h1'.next) (hi : isoOk h lr k v h1 h1' o = true) :
    (o.1 = .normal ∨ o.1 = .ret) ∧ ∃ vs, cresV (tmOf o.2.1) o.2.2 lr = some vs ∧ Iso (den W h) v (den W h1') (packV vs) (den W o.2.2) := by
  simp only [isoOk, Bool.and_eq_true] at hi
  obtain ⟨hx, hi⟩ := hi
  split at hi
  · rename_i vs hvs
    obtain ⟨π, hπ⟩ : ∃ π, π = prsOf h k v h1 (packV vs) o.2.2 := ⟨_, rfl⟩
    rw [← hπ] at hi
    simp only [Bool.and_eq_true, List.all_eq_true] at hi
    obtain ⟨⟨⟨i1, i2⟩, i3⟩, i4⟩ := hi
    have low : ∀ b, b < h.next → numF h.next π b = some b := fun b hb => by
      unfold numF
      have : Nat.blt b h.next = true := by rw [Nat.blt_eq]; exact hb
      rw [this]
    have high : ∀ b x, ¬ b < h.next → numF h.next π b = some x → (b, x) ∈ π := fun b x hb hx => by
      unfold numF at hx
      have : Nat.blt b h.next = false := by
        cases hc : Nat.blt b h.next with
        | false => rfl
        | true => rw [Nat.blt_eq] at hc; exact absurd hc hb
      rw [this] at hx
      exact asc_mem hx
    refine ⟨by revert hx; cases o.1 <;> simp, vs, hvs, numF h.next π, low, fun b x hb => ?_, fun b b' x h0 h0' hb hb' => ?_, fun b k1 hb => ?_, i3⟩
    · by_cases hl : b < h.next
      · exact Nat.lt_of_lt_of_le hl hn
      · have := (i2 _ (high b x hl hb)).2
        rw [Nat.blt_eq] at this
        exact this
    · by_cases hl : b < h.next <;> by_cases hl' : b' < h.next
      · rw [low b hl] at hb; rw [low b' hl'] at hb'; cases hb; cases hb'; rfl
      · rw [low b hl] at hb; cases hb
        have := (i2 _ (high b' b hl' hb')).1
        have := Nat.le_of_ble_eq_true this
        simp only at this
        omega
      · rw [low b' hl'] at hb'; cases hb'
        have := (i2 _ (high b b' hl hb)).1
        have := Nat.le_of_ble_eq_true this
        simp only at this
        omega
      · exact dist_one i1 (high b x hl hb) (high b' x hl' hb')
    · have hb' : h1'.tr.get b = some k1 := hb
      have := allN_of i4 b (hlt b k1 hb')
      unfold blkOk at this
      rw [hb'] at this
      simp only at this
      split at this
      · rename_i x hx
        split at this
        · rename_i k2 hk2
          exact ⟨x, k2, hx, hk2, this⟩
        · cases this
      · cases this
  · cases hi
def runG (P : Program) (tab : List (Nat × FnE)) (sp : Spec) (k : Nat) : Nat → Callee'
  | 0, _, _, _ => none
  | n + 1, f, args, h => match lookS sp f with
    | some g => g args h
    | none => match look tab f with
      | some e => match Nat.beq args.length e.na with
        | true => match e.x with
         | true => match icodeL P (runG P tab sp k n) k e.lc (initTr args 0 .leaf) h with
          | some ((x, t', h') :: os) => match cresV (tmOf t') h' e.lr with
            | some vs => match plain3 (packV vs) && ((x, t', h') :: os).all (fun o => seenOk h e.lr (packV vs) o) with
              | true => some (packV vs, h)
              | false => match keepH h.next (prsOf h k (packV vs) h' (packV vs) h') h' with
                | h1 => match Nat.ble h.next h1.next && ((x, t', h') :: os).all (fun o => isoOk h e.lr k (packV vs) h' h1 o) with
                  | true => some (packV vs, h1)
                  | false => none
            | none => none
          | _ => none
         | false => match icode P (runG P tab sp k n) k e.lc (initTr args 0 .leaf) h with
          | some (x, t', h') => match x with
            | .normal => match cresV (tmOf t') h' e.lr with | some vs => some (packV vs, h') | none => none
            | .ret => match cresV (tmOf t') h' e.lr with | some vs => some (packV vs, h') | none => none
            | _ => none
          | none => none
        | false => none
      | none => none
theorem runG_sound {P : Program} (hm : P.follows .mixedOrders = true) {tab : List (Nat × FnE)} {sp : Spec} {k : Nat} (ht : TabOk P tab) (hsp : SpecOk P sp) : ∀ n, OkCall P (runG P tab sp k n)
  | 0 => fun f args h v h' hs => by cases hs
  | n + 1 => fun f args h v h' hs W => by
    simp only [runG] at hs
    split at hs
    · rename_i g hg; exact lookS_ok hsp hg _ _ _ _ hs W
    · split at hs
      · rename_i e he
        have hL := look_ok ht he
        split at hs
        · rename_i hna
          have hna' : args.length = e.na := Nat.beq_eq ▸ hna
          rw [← hna'] at hL
          split at hs
          · rename_i hx
            rw [hx] at hL
            simp only at hL
            split at hs
            · rename_i x t' h1 os hi
              split at hs
              · rename_i vs hvs
                split at hs
                · rename_i hok
                  simp only [Bool.and_eq_true] at hok
                  cases hs
                  refine T_seenX hm hL hok.1 ?_
                  rw [← initTr_eq]
                  refine icodeL_sound (runG_sound hm ht hsp n) (W := W) hi ?_
                  rintro ⟨e1, t2, h2⟩ ho
                  have := List.all_eq_true.1 hok.2 _ ho
                  simp only [seenOk, Bool.and_eq_true] at this
                  obtain ⟨⟨⟨p1, p2⟩, p3⟩, p4⟩ := this
                  refine ⟨by cases e1 <;> simp_all, ?_⟩
                  split at p2
                  · rename_i vs2 hvs2
                    refine ⟨vs2, by rw [den_resV]; exact hvs2, veq_eq p2, Nat.le_of_ble_eq_true p3, fun b hb => ?_⟩
                    exact oldSame_blk p4 b hb
                  · cases p2
                · split at hs
                  · rename_i hok
                    simp only [Bool.and_eq_true] at hok
                    cases hs
                    obtain ⟨hK, hKe⟩ : ∃ hK, hK = keepH h.next (prsOf h k (packV vs) h1 (packV vs) h1) h1 := ⟨_, rfl⟩
                    rw [← hKe] at hok ⊢
                    have hlt : ∀ b x, hK.tr.get b = some x → b < hK.next := fun b x hb => by
                      rw [hKe] at hb ⊢
                      simp only [keepH] at hb ⊢
                      rw [rebuild_get] at hb
                      split at hb
                      · assumption
                      · cases hb
                    have hn : h.next ≤ hK.next := Nat.le_of_ble_eq_true hok.1
                    refine T_iso hm hL rfl rfl hn ⟨Nat.zero_le _, fun b x hb => ⟨Nat.zero_le _, hlt b x hb⟩⟩ ?_
                    rw [← initTr_eq]
                    refine icodeL_sound (runG_sound hm ht hsp n) (W := W) hi ?_
                    rintro ⟨e1, t2, h2⟩ ho
                    have := List.all_eq_true.1 hok.2 _ ho
                    obtain ⟨hx1, vs2, hvs2, hI⟩ := iso_of (W := W) hn hlt this
                    exact ⟨hx1, vs2, by rw [den_resV]; exact hvs2, hI⟩
                  · cases hs
              · cases hs
            · cases hs
          rename_i hx0
          rw [hx0] at hL
          simp only at hL
          split at hs
          · rename_i x t' h1 hi
            have fin : ∀ (hx : x = .normal ∨ x = .ret), (match cresV (tmOf t') h1 e.lr with | some vs => some (packV vs, h1) | none => none) = some (v, h') → T P f args (den W h) v (den W h') := by
              intro hx hr
              split at hr
              · rename_i vs hvs
                cases hr
                refine T_eq hm hL ?_
                rw [← initTr_eq]
                refine icode_sound (runG_sound hm ht hsp n) (W := W) hi (Q := EndA (fun v1 H1 => v1 = packV vs ∧ H1 = den W h') e.lr) ?_
                exact ⟨hx, vs, by rw [den_resV]; exact hvs, rfl, rfl⟩
              · cases hr
            split at hs
            · exact fin (.inl rfl) hs
            · exact fin (.inr rfl) hs
            · cases hs
          · cases hs
        · cases hs
      · cases hs
/-- A function of no arguments that is reckoned to answer true does so in every heap. -/
theorem T_trueG {P : Program} (hm : P.follows .mixedOrders = true) {tab : List (Nat × FnE)} {sp : Spec} {k n : Nat} (ht : TabOk P tab) (hsp : SpecOk P sp) {f : FuncId} (hr : isTrue (runG P tab sp k n f [] CH.empty) = true) (H : Heap) : T P f [] H (.bool true) H := by
  cases h : runG P tab sp k n f [] CH.empty with
  | none => rw [h] at hr; cases hr
  | some p =>
    obtain ⟨v, h'⟩ := p
    rw [h] at hr
    have hv : v = .bool true := by
      cases v <;> first | (simp [isTrue] at hr; done) | (simp only [isTrue] at hr; rw [hr])
    subst hv
    exact T_closed (runG_sound hm ht hsp n f [] CH.empty _ _ h) (by simp) rfl H
end Go.Ot
