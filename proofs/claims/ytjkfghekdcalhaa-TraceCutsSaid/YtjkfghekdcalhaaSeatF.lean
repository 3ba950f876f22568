/-
  Chapter 27: an event: what is refused at once; a task begins; what is read, written, put out, put in; a task begins anew.
-/
import Derived.Test.YtjkfghekdcalhaaSeatE
namespace Go.Proofs.Ytjkfghekdcalhaa
open Go.Ot Go.RowKit
open R14 (Twos ci joinV addN ontoN)
set_option linter.unusedSimpArgs false
set_option linter.unusedVariables false
theorem bkC_set (J : Jb) (n : Int) (pt : List Value) (xm xo xr : Value) (S : BS) (wh : Bool) {i : Nat} (hi : i < pt.length) (v : Value) : (bkC J n pt xm xo xr S wh).set (12 + i) v = bkC J n (pt.set i v) xm xo xr S wh := by
  unfold bkC
  rw [List.set_append_right _ _ (by simp; omega), show 12 + i - (jobC J).length = i + 1 from by simp; omega, List.set_cons_succ, List.set_append_left _ _ hi]
/-- A task begins. -/
theorem begin_S {H0 HA : Heap} {p : Nat} {ow : Nat → Nat} {J : Jb} {n : Int} {wh : Bool} {S : BS} {pt : List Value} {xm xo xr : Value} {vx : Nat} {x : Ev} (A : EA H0 HA p ow J n wh S pt xm xo xr vx x) {i : Nat} (hi : i < 200) :
    ∃ HD, (HA.new 109 4 [.slice none 0 0, .slice none 0 0, .slice none 0 0, .slice none 0 0]).store ⟨p, 12 + i, none⟩ (.pointer (some ⟨HA.next, 0, none⟩)) = some HD ∧ On H0 HD ∧ Vr HD vx 58 6 (evC x) ∧
      (S.tries[i]? = some none → BK H0 HD p (ow2 ow HA.next (5 * i)) J n wh { S with tries := S.tries.set i (some Tr.none) } (pt.set i (ptr HA.next)) xm xo xr) := by
  have hw := A.bk.on.wf
  have pl := A.bk.pl
  have lp := A.bk.lp
  have bp := hw.lt A.bk.vp.bq
  have bv := hw.lt A.v.bq
  have lx := A.lx
  have h0n := A.bk.on.next
  have o : On HA (HA.new 109 4 [.slice none 0 0, .slice none 0 0, .slice none 0 0, .slice none 0 0]) := (On.refl hw).new _ _ _
  have vp := A.bk.vp.on hw o
  have vq : Vr (HA.new 109 4 [.slice none 0 0, .slice none 0 0, .slice none 0 0, .slice none 0 0]) HA.next 109 4 [.slice none 0 0, .slice none 0 0, .slice none 0 0, .slice none 0 0] := Vr.mk' hw _ _ _
  have st := vp.store (12 + i) (.pointer (some ⟨HA.next, 0, none⟩)) (by simp [pl]; omega)
  rw [bkC_set J n pt xm xo xr S wh (by omega)] at st
  obtain ⟨HB, hHB⟩ : ∃ HB, HB = HA.new 109 4 [.slice none 0 0, .slice none 0 0, .slice none 0 0, .slice none 0 0] := ⟨_, rfl⟩
  rw [← hHB] at st vq vp o
  have nB : HB.next = HA.next + 1 := by rw [hHB]; rfl
  have p0 : H0.next ≤ p := by
    by_cases h : p < H0.next
    · have := A.bk.old p h; omega
    · omega
  have on2 : On H0 (HB.put p (bkC J n (pt.set i (ptr HA.next)) xm xo xr S wh)) := (A.bk.on.trans o).put p0 _
  rw [← hHB]
  refine ⟨_, st, on2, ((A.v.on hw o).beside (fun e => by rw [e] at lx; omega) _), fun hn => ?_⟩
  have ow' : ∀ b, b < HA.next → ow2 ow HA.next (5 * i) b = ow b := fun b hb => by unfold ow2; rw [if_neg (by omega)]
  have kp : ∀ b, b < HA.next → b ≠ p → (HB.put p (bkC J n (pt.set i (ptr HA.next)) xm xo xr S wh)).blk b = HA.blk b := fun b h1 h2 => by simp [h2, o.keep b h1]
  have ow : ∀ {ety sz m : Nat} {cs : List Value} {y : Value} (h : Own HA ety sz m cs y), (∀ b, blkOf y = some b → b ≠ p) → Own (HB.put p (bkC J n (pt.set i (ptr HA.next)) xm xo xr S wh)) ety sz m cs y := fun h h1 => h.keep (by simp [B_eq o.base]) (fun b hb => kp b (h.lt hw hb) (h1 b hb))
  refine ⟨on2, vp.put _, by rw [ow' p bp]; exact lp, fun b hb => by rw [ow' b (by omega)]; exact A.bk.old b hb, ow A.bk.m (fun b hb e => by have := A.bk.lm b hb; rw [e] at this; omega), ow A.bk.o (fun b hb e => by have := A.bk.lo b hb; rw [e] at this; omega),
    ow A.bk.r (fun b hb e => by have := A.bk.lr b hb; rw [e] at this; omega), fun b hx => by rw [ow' b (A.bk.m.lt hw hx)]; exact A.bk.lm b hx, fun b hx => by rw [ow' b (A.bk.o.lt hw hx)]; exact A.bk.lo b hx, fun b hx => by rw [ow' b (A.bk.r.lt hw hx)]; exact A.bk.lr b hx,
    by simp [pl], by simp [A.bk.tl], fun j hj => ?_⟩
  by_cases e : i = j
  · subst e
    refine .inr ⟨Tr.none, HA.next, _, _, _, _, by simp [List.getElem?_set, A.bk.tl, hi], by simp [List.getElem?_set, pl, hi], ⟨vq.beside (by omega) _, Own.nil _ _ _, Own.nil _ _ _, Own.nil _ _ _, Own.nil _ _ _, by unfold ow2; rw [if_pos rfl], ?_, ?_, ?_, ?_⟩⟩
    all_goals exact fun b hb => by cases hb
  · rcases A.bk.tr j hj with ⟨h1, h2⟩ | ⟨t, q2, a, b, c, d, h1, h2, h3⟩
    · exact .inl ⟨by simp [List.getElem?_set, e, h1], by simp [List.getElem?_set, e, h2]⟩
    · exact .inr ⟨t, q2, a, b, c, d, by simp [List.getElem?_set, e, h1], by simp [List.getElem?_set, e, h2], h3.keep hw (by simp [o.base]) (fun b hb h4 h5 => kp b hb (fun e2 => by rw [e2] at h5; omega)) ow'⟩
/-- A task begins anew. -/
theorem abort_S {H0 HA : Heap} {p : Nat} {ow : Nat → Nat} {J : Jb} {n : Int} {wh : Bool} {S : BS} {pt : List Value} {xm xo xr : Value} {vx : Nat} {x : Ev} (A : EA H0 HA p ow J n wh S pt xm xo xr vx x) {i q : Nat} (hi : i < 200) {t : Tr} {yr yw yo yi : Value}
    (hq : pt[i]? = some (ptr q)) (T : TrH HA ow i q t yr yw yo yi) :
    ∃ HD, sStore HA 4 (ptr q) (.agg #[.slice none 0 0, .slice none 0 0, .slice none 0 0, .slice none 0 0]) = some HD ∧ BK H0 HD p ow J n wh { S with tries := S.tries.set i (some Tr.none) } pt xm xo xr := by
  have hw := A.bk.on.wf
  have lq := T.lq
  refine ⟨_, T.vq.storeA (m := 4) (by decide) [.slice none 0 0, .slice none 0 0, .slice none 0 0, .slice none 0 0] rfl rfl, A.bk.tset hi (WF_put hw _ _) (by simp) (by simp) (fun b h1 h2 => ?_) (fun _ _ => rfl) hq ⟨T.vq.put _, Own.nil _ _ _, Own.nil _ _ _, Own.nil _ _ _, Own.nil _ _ _, lq, ?_, ?_, ?_, ?_⟩⟩
  · have : b ≠ q := fun e => by rw [e] at h2; omega
    simp [this]
  all_goals exact fun b hb => by cases hb
end Go.Proofs.Ytjkfghekdcalhaa
