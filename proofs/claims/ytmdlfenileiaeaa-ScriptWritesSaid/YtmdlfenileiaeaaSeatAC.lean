/-
  Chapter 25: ScriptWrites.
-/
import Derived.Test.YtmdlfenileiaeaaSeatAB
import Derived.Test.YtmdlfenileiaeaaSeatO
namespace Go.Proofs.Ytmdlfenileiaeaa
open Go.Ot Go.ChangeShapes Go.WideShapes Go.ChangeAt Go.RowKit
open Tx (decN strB)
set_option linter.unusedSimpArgs false
set_option linter.unusedVariables false
theorem grp_byte {e : Ent} {k : Nat} (he : ¬ badE e) (hk : k < 2147483648) : ∀ d ∈ grpB e k, d < 256 := by
  unfold badE at he
  have h1 := dec_byte (u := e.1.toNat) (by omega)
  have h2 := dec_byte hk
  intro d hd
  unfold grpB entB at hd
  rw [List.mem_append, List.mem_append] at hd
  rcases hd with (hd | hd) | hd
  · split at hd
    · rw [List.mem_singleton] at hd; omega
    · cases hd
  · exact h1 d hd
  · split at hd
    · rw [List.mem_cons] at hd
      rcases hd with hd | hd
      · omega
      · exact h2 d hd
    · cases hd
theorem txt_byte : ∀ (l : List Ent) (many : Nat) (b T : List Nat), many + l.length < 2147483648 → txt l many b = some T → (∀ d ∈ b, d < 256) → ∀ d ∈ T, d < 256
  | [], many, b, T, hm, h, hb => by
    have : b = T := by simpa [txt] using h
    rw [← this]; exact hb
  | e :: l, many, b, T, hm, h, hb => by
    unfold txt at h
    simp only [List.length_cons] at hm
    by_cases he : badE e
    · rw [if_pos he] at h; cases h
    · rw [if_neg he] at h
      by_cases hh : l.head? = some e
      · rw [if_pos hh] at h
        exact txt_byte l (many + 1) b T (by omega) h hb
      · rw [if_neg hh] at h
        refine txt_byte l 0 _ T (by omega) h ?_
        intro d hd
        rw [List.mem_append, List.mem_append] at hd
        rcases hd with (hd | hd) | hd
        · exact hb d hd
        · unfold sep at hd
          split at hd
          · cases hd
          · rw [List.mem_singleton] at hd; omega
        · exact grp_byte he (by omega) d hd
theorem bts_strB (b : List Nat) (h : ∀ d ∈ b, d < 256) : bts (strB b) = b := by
  unfold bts strB strOfNums
  simp only [List.map_map]
  induction b with
  | nil => rfl
  | cons d b ih =>
    have h1 := h d (by simp)
    have ih' := ih (fun c hc => h c (by simp [hc]))
    simp at ih' ⊢
    exact ⟨by omega, ih'⟩
theorem parse_emp : parseP (bts ByteArray.empty) = .ok [] 0 := by kernel_rfl
theorem writes_N {H : Heap} (hw : H.WF) {x : Value} {l : List Ent} (hx : Rl H x l) : TN Try.prog 6 [x] H (fun o H' => o = .ret (.bool true) ∧ On H H') := by
  refine N_by hm light6 ?_
  obtain ⟨ax, cx, hxv⟩ := hx.len
  have hntx : notTup x = true := by rw [hxv]; rfl
  by_cases g1 : 50000 < l.length
  · have g1' : (50000 : Int) < (l.length : Int) := by omega
    rw [hxv]
    simp [L6, g1, g1']
    exact On.refl hw
  have g1' : ¬ (50000 : Int) < (l.length : Int) := by omega
  have T1 := text_T hw hx (by omega)
  have T2 := refText_T hw hx (by omega)
  obtain ⟨V, hV⟩ : ∃ V : Value, V = (if 40000 < l.length then .tuple #[.string ByteArray.empty, iv 251] else txtV (txt l 0 [])) := ⟨_, rfl⟩
  rw [← hV] at T1 T2
  have cases3 : (∃ E : Int, E ≠ 0 ∧ V = .tuple #[.string ByteArray.empty, iv E]) ∨ ∃ b, txt l 0 [] = some b ∧ l.length ≤ 40000 ∧ b.length ≤ 8192 ∧ V = .tuple #[.string (strB b), iv 0] := by
    by_cases h : 40000 < l.length
    · rw [if_pos h] at hV
      exact .inl ⟨251, by decide, hV⟩
    · rw [if_neg h] at hV
      unfold txtV at hV
      cases ht : txt l 0 [] with
      | none => rw [ht] at hV; exact .inl ⟨250, by decide, hV⟩
      | some b =>
        rw [ht] at hV
        simp only at hV
        by_cases h8 : 8192 < b.length
        · rw [if_pos h8] at hV; exact .inl ⟨30, by decide, hV⟩
        · rw [if_neg h8] at hV; exact .inr ⟨b, rfl, by omega, by omega, hV⟩
  rcases cases3 with ⟨E, hE, rfl⟩ | ⟨b, ht, hl4, hb8, rfl⟩
  · have hE1 : (E != 0) = true := by simpa using hE
    have nself := neq_self ByteArray.empty
    have pN := parse_N hw ByteArray.empty
    rw [parse_emp] at pN
    rw [hxv]
    simp [L6, g1, g1']
    rw [← hxv]
    refine goN_T T1 ?_
    simp [hntx]
    refine goN_T T2 ?_
    simp [nself]
    refine goN_of pN ?_
    rintro r H1 ⟨y, rfl, row⟩ w1 _ _
    obtain ⟨ay, hy⟩ := row.own.len
    have hnty : notTup y = true := by rw [hy]; rfl
    simp [hnty, hE1, hE]
    refine goN_T (alive_T w1) ?_
    simp
    exact row.on
  · have nself := neq_self (strB b)
    have pN := parse_N hw (strB b)
    obtain ⟨a, hp⟩ := read_back ht hl4 hb8
    rw [bts_strB b (txt_byte l 0 [] b (by omega) ht (by simp)), hp] at pN
    rw [hxv]
    simp [L6, g1, g1']
    rw [← hxv]
    refine goN_T T1 ?_
    simp [hntx]
    refine goN_T T2 ?_
    simp [nself]
    refine goN_of pN ?_
    rintro r H1 ⟨y, rfl, row⟩ w1 _ _
    obtain ⟨ay, hy⟩ := row.own.len
    have hnty : notTup y = true := by rw [hy]; rfl
    have sT := same_T (hx.on hw row.on) (Own.rl row.own) (by omega)
    rw [decide_eq_true rfl] at sT
    simp [hnty, hntx]
    refine goN_T sT ?_
    simp
    refine goN_T (alive_T w1) ?_
    simp
    exact row.on
set_option maxRecDepth 100000 in
theorem writes_U {H : Heap} (hw : H.WF) {x : Value} (h0 : Rd Try.prog H 4 22 [x]) : ∃ v H', T Try.prog 6 [x] H v H' ∧ v = .bool true := by
  obtain ⟨l, hx, _⟩ := rd_ents h0
  exact ⟨_, _, T_of_N (writes_N hw hx), rfl⟩
end Go.Proofs.Ytmdlfenileiaeaa
