/-
  Bytes as texts; the example of the chapter 2.
-/
import Derived.Test.YtpcgganldmmpoaaSeatD
import Derived.Laws.Strings
namespace Go.Proofs.Ytpcgganldmmpoaa
open Go.Ot
set_option linter.unusedSimpArgs false
set_option linter.unusedVariables false
theorem byteNums_bc (l : List Nat) : byteNums (bc l) = some (l.map fun (b : Nat) => (b : Int)) := by
  induction l with
  | nil => rfl
  | cons a l ih => simp only [bc, List.map_cons] at ih ⊢; simp [byteNums, ih]
def strB (l : List Nat) : ByteArray := strOfNums (l.map fun (b : Nat) => (b : Int))
theorem toStr_bs {H : Heap} {x : Value} {l : List Nat} (h : Bs H x l) : sToStr H x = some (.string (strB l)) := by
  rcases h with ⟨rfl, rfl⟩ | ⟨b, off, c, rfl, h⟩
  · rfl
  · simp only [sToStr]
    rw [loadN_all (fun j hj => by simpa using h j hj), Option.bind_some, byteNums_bc]
    rfl
theorem strB_toList (l : List Nat) : (strB l).toList = l.map UInt8.ofNat := by
  rw [ByteArray.toList_eq]
  simp [strB, strOfNums, List.map_map, Function.comp_def]
theorem strB_inj {a b : List Nat} (ha : ∀ x ∈ a, x < 256) (hb : ∀ x ∈ b, x < 256) (h : (strB a).toList = (strB b).toList) : a = b := by
  rw [strB_toList, strB_toList] at h
  have h2 := congrArg (List.map UInt8.toNat) h
  rw [List.map_map, List.map_map] at h2
  have key : ∀ l : List Nat, (∀ x ∈ l, x < 256) → l.map (UInt8.toNat ∘ UInt8.ofNat) = l := by
    intro l hl
    conv => rhs; rw [← List.map_id l]
    refine List.map_congr_left fun x hx => ?_
    simp only [Function.comp_apply, UInt8.toNat_ofNat', id_eq]
    exact Nat.mod_eq_of_lt (hl x hx)
  rwa [key a ha, key b hb] at h2
theorem eql_str {a b : List Nat} (ha : ∀ x ∈ a, x < 256) (hb : ∀ x ∈ b, x < 256) : sBin .eql (.string (strB a)) (.string (strB b)) = some (.bool (decide (a = b))) := by
  simp only [sBin, sBinS]
  congr 2
  by_cases h : a = b
  · subst h; simp
  · have : ¬ (strB a).toList = (strB b).toList := fun h2 => h (strB_inj ha hb h2)
    simp [h, this]
theorem neq_str {a b : List Nat} (ha : ∀ x ∈ a, x < 256) (hb : ∀ x ∈ b, x < 256) : sBin .neq (.string (strB a)) (.string (strB b)) = some (.bool (decide (a ≠ b))) := by
  simp only [sBin, sBinS]
  congr 2
  by_cases h : a = b
  · subst h; simp
  · have : ¬ (strB a).toList = (strB b).toList := fun h2 => h (strB_inj ha hb h2)
    simp [h, this]
theorem alive_T {H : Heap} (hw : H.WF) : ∃ v H', T Try.prog 13 [] H v H' ∧ v = .bool true ∧ Same H H' [] := by
  refine T_by hm light13 ?_
  have W0 := new_WR hw
  have w0 : (H.new 73 1 [.slice none 0 0]).WF := WF_new hw _ _ _
  obtain ⟨H0', hH0⟩ : ∃ H0', H0' = H.new 73 1 [.slice none 0 0] := ⟨_, rfl⟩
  have T0 := new_T hw
  rw [← hH0] at T0 W0 w0
  obtain ⟨v1, H1, T1, x1, a1⟩ := uint_T w0 W0 (n := 300) (by omega) (by simp)
  obtain ⟨v2, H2, T2, x2, a2⟩ := int_T a1.wf a1.wr (n := -2) (by omega) (by rw [List.nil_append]; have := encU_len 9 300 (by omega); omega)
  have e300 : encU 300 = [172, 2] := by rw [encU_big (by decide), encU_small (by decide)]
  have e3 : encU (zz (-2)) = [3] := by rw [show zz (-2) = 3 from rfl, encU_small (by decide)]
  have e2 : encU 2 = [2] := encU_small (by decide)
  simp only [e300, e3, List.nil_append, List.cons_append] at a1 a2
  obtain ⟨v3, H3, T3, x3, a3⟩ := text_T a2.wf a2.wr ⟨#[97, 98]⟩ (by simp) (by decide)
  have e4 : encU (ByteArray.size ⟨#[97, 98]⟩) = [2] := e2
  have e5 : sb ⟨#[97, 98]⟩ = [97, 98] := rfl
  simp only [e4, e5, List.nil_append, List.cons_append] at a3
  have aw := (a1.trans a2).trans a3
  obtain ⟨H4, hH4⟩ : ∃ H4, H4 = H3.new 5 1 [.int .u8 7] := ⟨_, rfl⟩
  have w4 : H4.WF := by rw [hH4]; exact WF_new a3.wf _ _ _
  have nB3 := a3.wf.next_ge
  have b4 : Bs H4 (sl H3.next 1) [7] := by
    refine own_bs (n := 1) (Own.mk (by simp [bc]) (by rw [hH4]; exact nB3) (by rw [hH4]; simp [bc]))
  obtain ⟨v5, H5, T5, y5, rfl, a5⟩ := seal_T w4 b4 (by simp) (by simp)
  have k4 : ∀ b, b < H3.next → H4.blk b = H3.blk b := fun b hb => by rw [hH4]; simp [show b ≠ H3.next by omega]
  have n4 : H4.next = H3.next + 1 := by rw [hH4]; rfl
  have k5 : ∀ b, b < H3.next → H5.blk b = H3.blk b := fun b hb => (a5.olds b (by omega)).trans (k4 b hb)
  have B5 : H5.B = H3.B := (B_eq a5.base).trans (by rw [hH4]; rfl)
  have W5 := a3.wr.keep a3.wf B5 k5
  obtain ⟨v6, H6, T6, o6, hn6, S6⟩ := bytes_T a5.wf W5 (by simp)
  have T7 := sum_T (H := H6) (x := .slice none 0 0) (l := []) (.inl ⟨rfl, rfl⟩) (by simp) (by simp)
  have hts := toStr_bs (own_bs o6)
  have e6 : (⟨#[172, 2, 3, 2, 97, 98]⟩ : ByteArray) = strB [172, 2, 3, 2, 97, 98] := rfl
  have heq := eql_str (a := [172, 2, 3, 2, 97, 98]) (b := [172, 2, 3, 2, 97, 98]) (by simp) (by simp)
  have hlen := a5.own.len
  obtain ⟨a, ha⟩ := hlen
  subst ha
  simp [L13]
  refine goT_of T0 ?_
  simp
  refine goT_of T1 ?_
  simp
  refine goT_of T2 ?_
  simp
  refine goT_of T3 ?_
  simp [zerosA]
  rw [← hH4]
  refine goT_of T5 ?_
  simp
  refine goT_of T6 ?_
  simp [hts, e6, heq, sealB, mk4, low_len]
  refine goT_of T7 ?_
  simp [fnv]
  intro b hb _
  have nn := aw.next
  have n0 : H0'.next = H.next + 1 := by rw [hH0]; rfl
  have n5 := a5.next
  rw [S6 b (by omega) (by simp), k5 b (by omega), aw.same b (by omega) (by omega) (by simp), hH0]
  simp [show b ≠ H.next by omega]
end Go.Proofs.Ytpcgganldmmpoaa
