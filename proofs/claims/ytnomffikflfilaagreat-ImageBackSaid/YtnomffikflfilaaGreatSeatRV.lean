/-
  Chapter 26: what is packed is taken up as it was.
-/
import Derived.Test.YtnomffikflfilaaGreatSeatRP
namespace Go.Proofs.YtnomffikflfilaaGreat.E8
open I8
open Go.Ot Go.RowKit
open R14 (ci Twos)
set_option linter.unusedSimpArgs false
set_option linter.unusedVariables false
set_option maxRecDepth 100000
theorem rdP_of {n : Nat} (hn : n ≤ M31) (r : List Nat) : rdP M31 (encU n ++ r) 0 = (n, r, 0) := by
  have h : n < 18446744073709551616 := by unfold M31 at hn; omega
  unfold rdP
  rw [uS_of h]
  simp only
  rw [Nat.min_eq_left hn]
theorem countS_ofk {n : Nat} {r : List Nat} {k : Nat} (hk : 0 < k) (hn : n < 18446744073709551616) (h : n * k ≤ r.length) : countS (encU n ++ r) 0 k = (n, r, 0) := by
  unfold countS
  rw [uS_of hn]
  have e : atLeast (k : Int) = k := by unfold atLeast; split <;> omega
  have h2 : n ≤ r.length / k := (Nat.le_div_iff_mul_le hk).2 h
  simp only [leftN, e, if_true]
  rw [if_neg (by omega)]
theorem cells_of : ∀ (l : List (Int × Int)) (r : List Nat) (acc : List (Int × Int)), (∀ c ∈ l, 0 ≤ c.1 ∧ c.1 ≤ 1000 ∧ okI c.2) → cellsS l.length (encCs l ++ r) 0 acc = (acc ++ l, r, 0)
  | [], r, acc, _ => by simp [cellsS, encCs]
  | c :: l, r, acc, h => by
    obtain ⟨h1, h2, h3⟩ := h c (by simp)
    have e : encCs (c :: l) ++ r = encU c.1.toNat ++ (encU (zz c.2) ++ (encCs l ++ r)) := by simp [encCs, List.append_assoc]
    have ih := cells_of l r (acc ++ [c]) (fun d hd => h d (by simp [hd]))
    rw [e, List.length_cons]
    show cellsS l.length _ _ _ = _
    rw [rdP_of (by unfold M31; omega)]
    simp only
    rw [iS_of h3]
    simp only
    have ec : (((c.1.toNat : Nat) : Int), c.2) = c := by rw [show ((c.1.toNat : Nat) : Int) = c.1 by omega]
    rw [ec, ih]
    simp
theorem encCs_ge : ∀ (l : List (Int × Int)), l.length * 2 ≤ (encCs l).length
  | [] => by simp [encCs]
  | c :: l => by
    have h1 := encU_pos c.1.toNat
    have h2 := encU_pos (zz c.2)
    have ih := encCs_ge l
    have e : (encCs (c :: l)).length = (encU c.1.toNat).length + (encU (zz c.2)).length + (encCs l).length := by simp [encCs]; omega
    rw [e, List.length_cons]; omega
theorem rows_of {l : List (Int × Int)} (hl : l.length ≤ 1000) (h : ∀ c ∈ l, 0 ≤ c.1 ∧ c.1 ≤ 1000 ∧ okI c.2) (r : List Nat) : rowS2 (encU l.length ++ (encCs l ++ r)) 0 = (l, r, 0) := by
  have hg := encCs_ge l
  unfold rowS2
  have hc := countS_ofk (n := l.length) (r := encCs l ++ r) (k := 2) (by decide) (by omega) (by rw [List.length_append]; omega)
  have hc' : countS (encU l.length ++ (encCs l ++ r)) 0 2 = (l.length, encCs l ++ r, 0) := hc
  rw [hc']
  simp only
  rw [cells_of l r [] h]
  simp
theorem ints_of : ∀ (l : List Int) (r : List Nat) (acc : List Int), (∀ n ∈ l, okI n) → intsS l.length (l.flatMap (fun n => encU (zz n)) ++ r) 0 acc = (acc ++ l, r, 0)
  | [], r, acc, _ => by simp [intsS]
  | n :: l, r, acc, h => by
    have ih := ints_of l r (acc ++ [n]) (fun d hd => h d (by simp [hd]))
    rw [List.flatMap_cons, List.append_assoc, List.length_cons]
    show intsS l.length _ _ _ = _
    rw [iS_of (h n (by simp))]
    simp only
    rw [ih]
    simp
theorem flat_ge (l : List Int) : l.length ≤ (l.flatMap (fun n => encU (zz n))).length := by
  induction l with
  | nil => simp
  | cons a l ih =>
    have := encU_pos (zz a)
    rw [List.flatMap_cons, List.length_append, List.length_cons]; omega
theorem list_of {l : List Int} (hl : l.length ≤ 1000) (h : ∀ n ∈ l, okI n) (r : List Nat) : listS (encU l.length ++ (l.flatMap (fun n => encU (zz n)) ++ r)) 0 = (l, r, 0) := by
  have hg := flat_ge l
  unfold listS
  rw [countS_of (by omega) (by rw [List.length_append]; omega)]
  simp only
  rw [ints_of l r [] h]
  simp [listR]
theorem checkV_eq (l : List I8.In) (cells : Int) : checkV (l.map toE) cells = I8.checkV l cells := by rw [toE_id]
theorem text_of {b : List Nat} (hb : b.length < 18446744073709551616) (r : List Nat) : textS (encU b.length ++ (b ++ r)) 0 = (b, r, 0) := by
  unfold textS
  rw [countS_of hb (by rw [List.length_append]; omega)]
  simp
theorem fr_to (c : List I8.In) : (c.map toE).map frE = c := by
  rw [List.map_map]
  conv => rhs; rw [← List.map_id c]
  rfl
theorem codes_of (n : Int) : ∀ (l : List (List I8.In)) (r : List Nat) (acc : List (List In)), (∀ c ∈ l, (I8.checkV c n).2 = 0 ∧ (∀ a ∈ c, I8.okI a.k)) → codesS n l.length (encKs n l ++ r) 0 acc = (0, acc ++ l.map (·.map toE), r, 0)
  | [], r, acc, _ => by simp [codesS, encKs]
  | c :: l, r, acc, h => by
    obtain ⟨h1, h2⟩ := h c (by simp)
    have hcl := codeB_len n c h2
    have e : encKs n (c :: l) ++ r = encU (codeB n c).length ++ (codeB n c ++ (encKs n l ++ r)) := by simp [encKs, List.append_assoc]
    have ih := codes_of n l r (acc ++ [c.map toE]) (fun d hd => h d (by simp [hd]))
    have hck : (checkV (c.map toE) n).2 = 0 := by rw [checkV_eq]; exact h1
    have hb : codeB n c = encV (c.map toE) := by unfold codeB encS; rw [if_pos hck]
    have hd := back_of hck (fun x hx => by
      obtain ⟨y, hy, rfl⟩ := List.mem_map.1 hx
      exact h2 y hy)
    rw [e, List.length_cons]
    unfold codesS
    rw [text_of (by omega)]
    simp only
    rw [if_neg (by simp), hb, hd]
    simp only
    rw [if_neg (by simp), ih]
    simp
theorem encKs_ge (n : Int) : ∀ (l : List (List I8.In)), l.length ≤ (encKs n l).length
  | [] => by simp
  | c :: l => by
    have h1 := encU_pos (codeB n c).length
    have ih := encKs_ge n l
    have e : (encKs n (c :: l)).length = (encU (codeB n c).length).length + (codeB n c).length + (encKs n l).length := by simp [encKs]; omega
    rw [e, List.length_cons]; omega
theorem codeE_all (n : Int) : ∀ {l : List (List I8.In)}, codeE n l = 0 → ∀ c ∈ l, (I8.checkV c n).2 = 0
  | [], _, c, hc => by cases hc
  | d :: l, h, c, hc => by
    unfold codeE at h
    split at h
    · rename_i h1; exact absurd h h1
    · rename_i h1
      rcases List.mem_cons.1 hc with rfl | hc
      · simpa using h1
      · exact codeE_all n h c hc
def jpOf (J : Jb) : Jp := ⟨J.words, J.fuel, J.S, J.cells, J.reds, J.codes⟩
theorem job_codes {J : Jb} (hv : validE J = 0) : ∀ c ∈ J.codes, (I8.checkV c J.reds.length).2 = 0 := by
  unfold validE at hv
  split at hv
  · rename_i h; exact absurd hv h
  split at hv
  · rename_i h; exact absurd hv h
  split at hv
  · cases hv
  split at hv
  · rename_i h; exact absurd hv h
  split at hv
  · cases hv
  exact codeE_all _ hv
theorem job_of {J : Jb} (hv : validE J = 0) (hS : ShpOk J.S) (jb : JbB J) (r : List Nat) : jobS (encJ J ++ r) 0 = (0, jpOf J, r, 0) := by
  obtain ⟨jw, jc, jr, jf, jk⟩ := job_ok hv
  obtain ⟨nc, nr, nk⟩ := job_small hv
  have hck := job_codes hv
  have e : encJ J ++ r = encU J.words.toNat ++ (encU J.cells.length ++ (encCs J.cells ++ (encU J.reds.length ++ (encCs J.reds ++ (encU J.fuel.toNat ++ (encU J.S.kind.toNat ++ (encU (five J.S).length ++ ((five J.S).flatMap (fun n => encU (zz n)) ++ (encU J.codes.length ++ (encKs J.reds.length J.codes ++ r)))))))))) := by
    unfold encJ
    have l5 : (five J.S).length = 5 := rfl
    rw [l5]
    simp only [List.append_assoc]
  have ok5 : ∀ n ∈ five J.S, okI n := by
    intro n hn
    simp only [five, List.mem_cons, List.not_mem_nil, or_false] at hn
    rcases hn with rfl | rfl | rfl | rfl | rfl
    · exact hS.lo
    · exact hS.hi
    · exact hS.step
    · exact hS.items
    · exact hS.stages
  have kg := encKs_ge J.reds.length J.codes
  rw [e]
  unfold jobS
  rw [rdP_of (by unfold M31; omega)]
  simp only
  unfold tCs
  rw [rows_of (by omega) (fun c hc => by have := jc c hc; exact ⟨by omega, by omega, (jb.c c hc).2⟩)]
  simp only
  unfold tRs
  rw [rows_of (by omega) (fun c hc => by have := jr c hc; exact ⟨by omega, by omega, (jb.r c hc).2⟩)]
  simp only
  unfold tFs
  rw [rdP_of (by unfold M31; omega)]
  simp only
  rw [rdP_of (by unfold M31; omega)]
  simp only
  unfold tLs
  rw [list_of (by show 5 ≤ 1000; decide) ok5]
  simp only
  rw [if_pos (by rfl)]
  unfold tKs ksS
  simp only
  rw [countS_of (by omega) (by rw [List.length_append]; omega)]
  simp only
  rw [codes_of _ J.codes r [] (fun c hc => ⟨hck c hc, jb.k c hc⟩)]
  simp only
  rw [if_neg (by simp)]
  have hf : frK ([] ++ J.codes.map (·.map toE)) = J.codes := by
    rw [List.nil_append]
    unfold frK
    rw [List.map_map]
    conv => rhs; rw [← List.map_id J.codes]
    refine List.map_congr_left fun c _ => ?_
    exact fr_to c
  rw [hf]
  have w1 : ((J.words.toNat : Nat) : Int) = J.words := by omega
  have w2 : ((J.fuel.toNat : Nat) : Int) = J.fuel := by omega
  have w3 : ((J.S.kind.toNat : Nat) : Int) = J.S.kind := by omega
  rw [w1, w2, w3]
  rfl
theorem ten_take : ∀ (a : List Int) (r : List Nat) (acc : List Int), (∀ n ∈ a, 0 ≤ n ∧ n ≤ 512) → tenS a.length (a.flatMap (fun n => encU n.toNat) ++ r) 0 acc = (acc ++ a, r, 0)
  | [], r, acc, _ => by simp [tenS]
  | n :: a, r, acc, h => by
    have h1 := h n (by simp)
    have ih := ten_take a r (acc ++ [n]) (fun d hd => h d (by simp [hd]))
    rw [List.flatMap_cons, List.append_assoc, List.length_cons]
    unfold tenS
    rw [rdP_of (by unfold M31; omega)]
    simp only
    rw [show ((n.toNat : Nat) : Int) = n by omega, ih]
    simp
theorem flag_of (b : Bool) (r : List Nat) : flagS ([if b then 1 else 0] ++ r) 0 = (b, r, 0) := by
  cases b <;> rfl
theorem cfg_of {C : Cfg} (hr : rightE C = 0) (r : List Nat) : cfgS (encC C ++ r) 0 = (C, r, 0) := by
  have hten := ten_ok hr
  unfold cfgS encC
  rw [List.append_assoc]
  have h := ten_take (ten C) ([if C.force then 1 else 0] ++ r) [] hten
  have l10 : (ten C).length = 10 := rfl
  rw [l10] at h
  rw [h]
  simp only [List.nil_append]
  rw [flag_of]
  rfl
theorem runLen_take (e : Ent) : ∀ l : List Ent, l.take (runLen e l) = List.replicate (runLen e l) e
  | [] => by simp [runLen]
  | a :: l => by
    unfold runLen
    split
    · rename_i h
      subst h
      rw [List.take_succ_cons, runLen_take, List.replicate_succ]
    · simp
theorem runLen_le (e : Ent) : ∀ l : List Ent, runLen e l ≤ l.length
  | [] => by simp [runLen]
  | a :: l => by
    unfold runLen
    have := runLen_le e l
    split <;> simp <;> omega
theorem entGo_of (n : Nat) (hn : n ≤ 40000) (k : Nat) : ∀ (m : Nat) (l acc : List Ent), acc.length + l.length = n → l.length ≤ m → l.length < k → (∀ e ∈ l, okI e.1) → entGo n k (encR m l) 0 acc = (0, acc ++ l, [], 0) := by
  induction k with
  | zero => intro m l acc h1 h2 h3 h4; omega
  | succ k ih =>
    intro m l acc h1 h2 h3 h4
    match l, m with
    | [], 0 =>
      unfold entGo
      rw [if_neg (by simp at h1; omega)]
      simp [encR]
    | [], m + 1 =>
      unfold entGo
      rw [if_neg (by simp at h1; omega)]
      simp [encR]
    | e :: l, 0 => simp at h2
    | e :: l, m + 1 =>
      have hrl := runLen_le e (e :: l)
      have hr1 : 1 ≤ runLen e (e :: l) := by simp [runLen]
      have htk := runLen_take e (e :: l)
      obtain ⟨q, hq⟩ : ∃ q, q = runLen e (e :: l) := ⟨_, rfl⟩
      have he : encR (m + 1) (e :: l) = encU q ++ (encU (zz e.1) ++ ([if e.2 then 1 else 0] ++ encR m ((e :: l).drop q))) := by rw [encR, ← hq]; simp only [List.append_assoc]
      rw [← hq] at hrl hr1 htk
      have hlen : (e :: l).length = acc.length * 0 + (n - acc.length) := by omega
      have hrow : rowE (encR (m + 1) (e :: l)) 0 = (q, e, encR m ((e :: l).drop q), 0) := by
        unfold rowE
        rw [he, rdP_of (by unfold M31; omega)]
        simp only
        rw [iS_of (h4 e (by simp))]
        simp only
        rw [flag_of]
      unfold entGo
      rw [if_pos ⟨by simp at h1; omega, rfl⟩, hrow]
      simp only
      rw [if_neg (by omega)]
      have hdl : ((e :: l).drop q).length = (e :: l).length - q := List.length_drop
      rw [ih m ((e :: l).drop q) (acc ++ List.replicate q e) (by rw [List.length_append, List.length_replicate, hdl]; omega) (by rw [hdl]; simp only [List.length_cons] at h2 ⊢; omega) (by rw [hdl]; omega) (fun a ha => h4 a (List.mem_of_mem_drop ha)), ← htk, List.append_assoc, List.take_append_drop]
theorem ent_of {l : List Ent} (hl : l.length ≤ 40000) (hb : ∀ e ∈ l, okI e.1) : entS (encU l.length ++ encR l.length l) 0 = (0, l, [], 0) := by
  unfold entS
  rw [rdP_of (by unfold M31; omega)]
  simp only
  rw [if_neg (by omega), entGo_of l.length hl (l.length + 1) l.length l [] (by simp) (Nat.le_refl _) (by omega) hb]
  simp
theorem pre_of {J : Jb} (hv : validE J = 0) (hS : ShpOk J.S) (jb : JbB J) {C : Cfg} (hr : rightE C = 0) {l : List Ent} (hl : l.length ≤ 40000) (hb : ∀ e ∈ l, okI e.1) : preS (bodyV J C l) = (0, jpOf J, C, l) := by
  have e : bodyV J C l = encU 1 ++ (encJ J ++ (encC C ++ (encU l.length ++ encR l.length l))) := by unfold bodyV; simp only [List.append_assoc]
  rw [e]
  unfold preS
  rw [uS_of (by decide)]
  simp only
  rw [if_neg (by simp), job_of hv hS jb]
  simp only
  rw [if_neg (by simp)]
  unfold preS.preT
  rw [cfg_of hr]
  simp only
  rw [ent_of hl hb]
  simp [endN]
theorem un_of {J : Jb} (hS : ShpOk J.S) (jb : JbB J) {C : Cfg} {l : List Ent} (hb : ∀ e ∈ l, okI e.1) (h0 : (packV J C l).1 = 0) :
    ∃ b, (packV J C l).2 = b ∧ Lt8 b ∧ b.length ≤ 2000000 ∧ unE b = 0 ∧ (openB b).1 = 0 ∧ preS (openB b).2 = (0, jpOf J, C, l) := by
  have hp : packV J C l = (0, sealB (bodyV J C l)) ∧ playE J C l.length = 0 ∧ (bodyV J C l).length ≤ 1048576 := by
    unfold packV at h0 ⊢
    split at h0
    · rename_i h; exact absurd h0 h
    · rename_i h
      split at h0
      · cases h0
      · rename_i h2
        rw [if_neg h, if_neg h2]
        exact ⟨rfl, by simpa using h, by omega⟩
  obtain ⟨hp, hpl, hlen⟩ := hp
  have hlt := bodyV_lt J C l
  have ho := open_seal (bodyV J C l) hlt hlen
  have hparts : validE J = 0 ∧ rightE C = 0 ∧ l.length ≤ 40000 := by
    unfold playE at hpl
    split at hpl
    · rename_i h; exact absurd hpl h
    · rename_i h
      split at hpl
      · rename_i h2; exact absurd hpl h2
      · rename_i h2
        split at hpl
        · cases hpl
        · exact ⟨by simpa using h, by simpa using h2, by omega⟩
  obtain ⟨hv, hr, hl⟩ := hparts
  have hpre := pre_of hv hS jb hr hl hb
  have hsl := sealB_len (bodyV J C l)
  refine ⟨sealB (bodyV J C l), by rw [hp], sealB_lt hlt, by omega, ?_, by rw [ho], by rw [ho]; exact hpre⟩
  unfold unE
  rw [ho]
  simp only
  rw [if_neg (by simp), hpre]
  unfold finE
  simp only
  have e1 : playE (jbOf (jpOf J)) C l.length = playE J C l.length := rfl
  have e2 : packV (jbOf (jpOf J)) C l = packV J C l := rfl
  rw [e1, e2, hpl, hp]
  simp
end Go.Proofs.YtnomffikflfilaaGreat.E8
