/-
  Chapter 21: the law of what an age reads holds for every row of calls.
-/
import Derived.Test.YthclcdboialfnaaSeatT
namespace Go.Proofs.Ythclcdboialfnaa
open Go.Ot Go.ChangeShapes Go.WideShapes Go.ChangeAt Go.RowKit
set_option linter.unusedSimpArgs false
set_option linter.unusedVariables false
theorem T_of_N {f : FuncId} {args : List Value} {H : Heap} (h : TN Try.prog f args H (fun o H' => o = .ret (.bool true) ∧ On H H')) : T Try.prog f args H (.bool true) H := by
  refine TN.one rfl (Nat.le_refl _) id ?_
  refine TN.mono (TN.forget (Q' := fun o => o = .ret (.bool true)) h ?_) (fun o H' h _ _ _ => ⟨h.2, h.1⟩)
  rintro o H' ⟨rfl, on⟩
  exact ⟨rfl, on.keep, rfl⟩
theorem rem_T (n : Int) : (IntKind.i64.wrap (n.tmod 64 + 64)).tmod 64 = n % 64 := by
  have h1 := Int.tmod_lt_of_pos n (show (0 : Int) < 64 by omega)
  have h2 := Int.tmod_lt_of_pos (-n) (show (0 : Int) < 64 by omega)
  rw [Int.neg_tmod] at h2
  have w2 : IntKind.i64.wrap (n.tmod 64 + 64) = n.tmod 64 + 64 := w64 _ (by omega)
  have := Int.mul_tdiv_add_tmod n 64
  rw [w2, Int.tmod_eq_emod_of_nonneg (by omega)]
  omega
theorem reads_T {H : Heap} (hw : H.WF) {x : Value} {l : List Cl} (hx : Rc H x l) (at0 age : Int) : T Try.prog 3 [x, iv at0, iv age] H (.bool true) H := by
  refine T_of_N (N_by hm light3 ?_)
  obtain ⟨ax, cx, hxl⟩ := hx.len
  have nN := new_N hw (W := 64) (R := 512) (by omega) (by omega)
  have nn : notTup x = true := by rw [hxl]; rfl
  simp [L3]
  refine goN_of nN ?_
  rintro o H1 ⟨v, rfl, p, D, rfl, st, pl, fl, hc, hmn, hk⟩ hw1 hb1 hn1
  have on1 : On H H1 := ⟨hw1, hb1, hn1, hk⟩
  by_cases h120 : 120 < l.length
  · have h120' : (120 : Int) < (l.length : Int) := by omega
    rw [hxl]
    simp [h120, h120']
    exact on1
  have h120' : ¬ (120 : Int) < (l.length : Int) := by omega
  obtain ⟨a, ha⟩ : ∃ a : Nat, (a : Int) = at0 % 64 := ⟨(at0 % 64).toNat, by omega⟩
  have ha64 : a < 64 := by omega
  have hr := rem_T at0
  rw [← ha] at hr
  have hr' : sBin .rem (iv (IntKind.i64.wrap (at0.tmod 64 + 64))) (iv 64) = some (iv a) := by rw [sBin_rem, ← hr]; simp
  have := hxl
  subst this
  simp [h120, h120', sBin_rem, hr]
  refine loopN_at (InvR1 H (.slice ax l.length cx) l a age p) l.length ?_ ?_
  · exact ⟨0, D, by omega, by simp, by simp, by simp, by simp, by simp, by simp, by simp, by simp, on1, hmn, st, pl, by omega, by funext b g; rw [hc]; rfl⟩
  refine round1 hw hx (by omega) ?_
  rintro t H2 ⟨i, D2, hik, t0, t1, t2, t7, t9, t10, t11, t12, on, hm1, st2, pl2, fl2, hc2⟩
  have ei : i = l.length := by omega
  subst ei
  simp
  refine loopN_at (InvR2 H2 (.slice ax l.length cx) l a age p) l.length ?_ ?_
  · exact ⟨0, 0, 0, false, by omega, by simp [t0], by simp [t1], by simp [t2], by simp [t7], by simp [t9], by simp [t10], by simp [t11], by simp, On.refl on.wf, ⟨fun _ => ⟨rfl, rfl, fun j hj => by omega⟩, fun e => (by cases e)⟩⟩
  refine round2 on.wf (hx.on hw on) (by omega) ?_
  rintro t H3 ⟨i, bst, vl, f, hik, t0, t1, t2, t7, t9, t10, t11, t14, on3, hB⟩
  have ei : i = l.length := by omega
  subst ei
  have st3 := st2.on on.wf on3
  obtain ⟨r, oT, hr1, hr2⟩ := older_TT on3.wf st3 pl2 ha64 age
  rw [hc2] at hr1 hr2
  obtain ⟨b1, b2⟩ := best_is ha64 hB
  obtain ⟨HA, hHA⟩ : ∃ HA, HA = H3.new 33 2 [iv 0, iv 0] := ⟨_, rfl⟩
  have onA : On H3 HA := by rw [hHA]; exact (On.refl on3.wf).new _ _ _
  have vA : Vr HA H3.next 33 2 [iv 0, iv 0] := by rw [hHA]; exact Vr.mk' on3.wf _ _ _
  cases f with
  | false =>
    obtain ⟨e1, e2, e3⟩ := b2 rfl
    subst e1 e2
    have er : r = none := by
      cases r with
      | none => rfl
      | some qv =>
        obtain ⟨q, v⟩ := qv
        obtain ⟨h1, h2, h3⟩ := hr1 q v rfl
        rw [e3 q h1] at h2
        cases h2
    subst er
    change T _ _ _ _ (.tuple #[.agg #[iv 0, iv 0], .bool false]) _ at oT
    have sf := vA.storeA (m := 2) (by decide) [iv 0, iv 0] rfl rfl
    rw [vA.same] at sf
    have d0 : HA.load ⟨H3.next, 0, none⟩ = some (iv 0) := vA.load 0
    have d1 : HA.load ⟨H3.next, 1, none⟩ = some (iv 0) := vA.load 1
    have ex := example_T onA.wf
    simp [t7, t1, t2]
    refine goN_T oT ?_
    simp [← hHA, sf, t11, d1, t10]
    refine goN_T ex ?_
    simp
    exact (on.trans on3).trans onA
  | true =>
    obtain ⟨e1, e2, e3⟩ := b1 rfl
    have er : r = some (bst, vl) := by
      cases r with
      | none => have := hr2 rfl bst e2; rw [e1] at this; cases this
      | some qv =>
        obtain ⟨q, v⟩ := qv
        obtain ⟨h1, h2, h3⟩ := hr1 q v rfl
        have h4 := h3 bst e2 (by rw [e1]; rfl)
        have h5 := e3 q h1 (by rw [h2]; rfl)
        have h6 : q = bst := by omega
        subst h6
        rw [e1] at h2
        cases h2
        rfl
    subst er
    change T _ _ _ _ (.tuple #[.agg #[iv bst, iv vl], .bool true]) _ at oT
    have sf := vA.storeA (m := 2) (by decide) [iv bst, iv vl] rfl rfl
    have vB := vA.put [iv bst, iv vl]
    have onB : On H3 (HA.put H3.next [iv bst, iv vl]) := onA.put (Nat.le_refl _) _
    obtain ⟨HB, hHB⟩ : ∃ HB, HB = HA.put H3.next [iv bst, iv vl] := ⟨_, rfl⟩
    rw [← hHB] at sf vB onB
    have d0 : HB.load ⟨H3.next, 0, none⟩ = some (iv bst) := vB.load 0
    have d1 : HB.load ⟨H3.next, 1, none⟩ = some (iv vl) := vB.load 1
    have ex := example_T onB.wf
    simp [t7, t1, t2]
    refine goN_T oT ?_
    simp [← hHA, sf, t11, d1, t10, d0, t9]
    refine goN_T ex ?_
    simp
    exact (on.trans on3).trans onB
end Go.Proofs.Ythclcdboialfnaa
