/-
  Chapter 21: Live, Free, and Put where there is no room.
-/
import Derived.Test.YthclcdboialfnaaSeatK
namespace Go.Proofs.Ythclcdboialfnaa
open Go.Ot Go.RowKit
set_option linter.unusedSimpArgs false
set_option linter.unusedVariables false
theorem afree_T {H : Heap} {p fb ub : Nat} {fr : List Int} {us : List Bool} (h : AR H p fb ub fr us) : T Try.prog 38 [ptr p] H (iv fr.length) H := by
  refine T_eq hm light38 ?_
  have l0 : H.load ⟨p, 0, none⟩ = some (sl fb fr.length) := by rw [load_at h.hp h.bp]; rfl
  simp [L38, l0]
theorem alive_T {H : Heap} {p fb ub : Nat} {fr : List Int} {us : List Bool} (h : AR H p fb ub fr us) (h1 : fr.length ≤ us.length) (h2 : us.length < 1000) : T Try.prog 29 [ptr p] H (iv ((us.length - fr.length : Nat) : Int)) H := by
  refine T_eq hm light29 ?_
  have l0 : H.load ⟨p, 0, none⟩ = some (sl fb fr.length) := by rw [load_at h.hp h.bp]; rfl
  have l1 : H.load ⟨p, 1, none⟩ = some (sl ub us.length) := by rw [load_at h.hp h.bp]; rfl
  have e1 : IntKind.i64.wrap ((us.length : Int) - (fr.length : Int)) = ((us.length - fr.length : Nat) : Int) := by rw [w64 _ (by omega)]; omega
  simp [L29, l0, l1, e1]
theorem sfree_T {H : Heap} {p : Nat} {D : SD} (h : ST H p D) : T Try.prog 23 [ptr p] H (iv D.fr.length) H := by
  refine T_eq hm light23 ?_
  simp [L23, h.l0]
  refine goT_of (afree_T h.ar) ?_
  simp
theorem slive_T {H : Heap} {p W R : Nat} {D : SD} (h : ST H p D) (pl : PL D W R) : T Try.prog 15 [ptr p] H (iv ((R - D.fr.length : Nat) : Int)) H := by
  refine T_eq hm light15 ?_
  have h1 := pl.frR
  have h2 := pl.hu
  have h3 := pl.R1
  have t := alive_T h.ar (by omega) (by omega)
  rw [h2] at t
  simp [L15, h.l0]
  refine goT_of t ?_
  simp
theorem take_full {H : Heap} {p fb ub : Nat} {us : List Bool} (h : AR H p fb ub [] us) : T Try.prog 21 [ptr p] H (.tuple #[iv 0, iv 200]) H := by
  refine T_eq hm light21 ?_
  have l0 : H.load ⟨p, 0, none⟩ = some (sl fb 0) := by rw [load_at h.hp h.bp]; rfl
  simp [L21, l0, packV]
theorem put_full {H : Heap} {p : Nat} {D : SD} (h : ST H p D) {a i : Nat} {age v : Int} (ha : a < D.xs.length) (h0 : 0 ≤ age) (hfr : D.fr = [])
    (pT : T Try.prog 20 [ptr p, iv a, iv age] H (.tuple #[iv i, .bool false]) H) : T Try.prog 8 [ptr p, iv a, iv age, iv v] H (iv 200) H := by
  refine T_eq hm light8 ?_
  have iT := inside_T h (a : Int)
  have hin : inV D (a : Int) = true := by simp [inV, ha]
  rw [hin] at iT
  have h0' : ¬ age < 0 := by omega
  have ar := h.ar
  rw [hfr] at ar
  simp [L8]
  refine goT_of iT ?_
  simp [h0']
  refine goT_of pT ?_
  simp [h.l0]
  refine goT_of (take_full ar) ?_
  simp
end Go.Proofs.Ythclcdboialfnaa
