/-
  Chapter 8: which instruction may be, by the document: it is the program's answer.
-/
import Derived.Test.YtkocomnfomjfiaaSeatD
namespace Go.Proofs.Ytkocomnfomjfiaa
open Go.Ot Go.RowKit
set_option linter.unusedSimpArgs false
set_option linter.unusedVariables false
def Tl12 : LCode := .seq (.seq (.region (G1a ++ (G1b ++ G1c))) (.cond (.tmp 40) (fail 81) (.skip))) (.seq (.seq (.region (G2a ++ (G2b ++ G2c))) (.cond (.tmp 65) (fail 82) (.skip))) (.seq (.seq (.region (G3a ++ (G3b ++ (G3c ++ (G3k ++ G3o))))) (.cond (.tmp 128) (fail 83) (.skip))) (.seq (.seq (.region (G4)) (.cond (.tmp 146) (fail 63) (.skip))) (.seq (.seq (.region (G5)) (.cond (.tmp 159) (fail 84) (.skip))) (fail 0)))))
theorem L12_eq : L12 = .seq (.region [⟨some 3, .box 25 6 (.tmp 0), none⟩, ⟨some 6, .move (.const (.int .i64 0)), none⟩]) (.seq (.region [⟨some 8, .off 0 (.tmp 3), none⟩, ⟨some 9, .load false 1 (.tmp 8), none⟩, ⟨some 10, .call 28 [.tmp 9], none⟩, ⟨some 7, .move (.tmp 10), none⟩]) Tl12) := rfl
def d1V (ps : ByteArray) (x : In) : Bool := ((ps.toList == [63]) || (hasB ps 111 && (decide (x.op < 1) || decide (18 < x.op)))) || (hasB ps 112 && (decide (x.op < 19) || decide (21 < x.op)))
def d2V (ps : ByteArray) (x : In) : Bool := ((hasB ps 97 && badR x.a) || (hasB ps 98 && badR x.b)) || (hasB ps 99 && badR x.c)
def d3V (ps : ByteArray) (x : In) : Bool := ((((!hasB ps 97 && decide (x.a ≠ 0)) || (!hasB ps 98 && decide (x.b ≠ 0))) || (!hasB ps 99 && !hasB ps 114 && decide (x.c ≠ 0))) || (!hasB ps 107 && !hasB ps 116 && decide (x.k ≠ 0))) || (!hasB ps 111 && !hasB ps 112 && decide (x.op ≠ 0))
def d4V (ps : ByteArray) (x : In) (cells : Int) : Bool := hasB ps 114 && (decide (x.c < 0) || decide (cells ≤ x.c) || decide (4 ≤ x.c))
def d5V (ps : ByteArray) (x : In) (long : Int) : Bool := hasB ps 116 && (decide (x.k < 0) || decide (long ≤ x.k))
def oneRV (ps : ByteArray) (x : In) (cells long : Int) : Int := if d1V ps x = true then 81 else if d2V ps x = true then 82 else if d3V ps x = true then 83 else if d4V ps x cells = true then 63 else if d5V ps x long = true then 84 else 0
theorem fs_w {H : Heap} {t : Tm} {d : Nat} {c : Int} {v : Bool} (hd : t d = .bool v) {Q : Post} (h1 : v = true → ∀ t' : Tm, t' 6 = iv c → Q .ret t' (rdy H)) (h2 : v = false → Q .normal t (rdy H)) : wpA Try.prog (.cond (.tmp d) (fail c) .skip) Q t (rdy H) := by
  rw [wpA_cond, ev_tmp, hd]
  cases v with
  | true => rw [goC_true]; exact fail_w c (h1 rfl)
  | false => rw [goC_false, wpA_skip]; exact h2 rfl
theorem st1 {H : Heap} {t : Tm} {bx : Nat} {x : In} {ps : ByteArray} {cells long : Int} (h : O2 H t bx x ps cells long) {Q : Post}
    (h1 : d1V ps x = true → ∀ t' : Tm, t' 6 = iv 81 → Q .ret t' (rdy H)) (h2 : d1V ps x = false → ∀ t' : Tm, O2 H t' bx x ps cells long → Q .normal t' (rdy H)) :
    wpA Try.prog (.seq (.region (G1a ++ (G1b ++ G1c))) (.cond (.tmp 40) (fail 81) .skip)) Q t (rdy H) := by
  rw [wpA_seq, wpA_region, wpO_app]
  refine q1a h fun ta ha ea => ?_
  rw [wpO_app]
  refine q1b ha ea fun tb hb eb => q1c hb eb fun tc hc ec => ?_
  exact fs_w ec (fun hv => h1 hv) (fun hv => h2 hv tc hc)
theorem st2 {H : Heap} {t : Tm} {bx : Nat} {x : In} {ps : ByteArray} {cells long : Int} (h : O2 H t bx x ps cells long) {Q : Post}
    (h1 : d2V ps x = true → ∀ t' : Tm, t' 6 = iv 82 → Q .ret t' (rdy H)) (h2 : d2V ps x = false → ∀ t' : Tm, O2 H t' bx x ps cells long → Q .normal t' (rdy H)) :
    wpA Try.prog (.seq (.region (G2a ++ (G2b ++ G2c))) (.cond (.tmp 65) (fail 82) .skip)) Q t (rdy H) := by
  rw [wpA_seq, wpA_region, wpO_app]
  refine q2a h fun ta ha ea => ?_
  rw [wpO_app]
  refine q2b ha ea fun tb hb eb => q2c hb eb fun tc hc ec => ?_
  exact fs_w ec (fun hv => h1 hv) (fun hv => h2 hv tc hc)
theorem st3 {H : Heap} {t : Tm} {bx : Nat} {x : In} {ps : ByteArray} {cells long : Int} (h : O2 H t bx x ps cells long) {Q : Post}
    (h1 : d3V ps x = true → ∀ t' : Tm, t' 6 = iv 83 → Q .ret t' (rdy H)) (h2 : d3V ps x = false → ∀ t' : Tm, O2 H t' bx x ps cells long → Q .normal t' (rdy H)) :
    wpA Try.prog (.seq (.region (G3a ++ (G3b ++ (G3c ++ (G3k ++ G3o))))) (.cond (.tmp 128) (fail 83) .skip)) Q t (rdy H) := by
  rw [wpA_seq, wpA_region, wpO_app]
  refine q3a h fun ta ha ea => ?_
  rw [wpO_app]
  refine q3b ha ea fun tb hb eb => ?_
  rw [wpO_app]
  refine q3c hb eb fun tc hc ec => ?_
  rw [wpO_app]
  refine q3k hc ec fun td hd ed => q3o hd ed fun te he ee => ?_
  exact fs_w ee (fun hv => h1 hv) (fun hv => h2 hv te he)
theorem st4 {H : Heap} {t : Tm} {bx : Nat} {x : In} {ps : ByteArray} {cells long : Int} (h : O2 H t bx x ps cells long) {Q : Post}
    (h1 : d4V ps x cells = true → ∀ t' : Tm, t' 6 = iv 63 → Q .ret t' (rdy H)) (h2 : d4V ps x cells = false → ∀ t' : Tm, O2 H t' bx x ps cells long → Q .normal t' (rdy H)) :
    wpA Try.prog (.seq (.region G4) (.cond (.tmp 146) (fail 63) .skip)) Q t (rdy H) := by
  rw [wpA_seq, wpA_region]
  refine q4 h fun ta ha ea => ?_
  exact fs_w ea (fun hv => h1 hv) (fun hv => h2 hv ta ha)
theorem st5 {H : Heap} {t : Tm} {bx : Nat} {x : In} {ps : ByteArray} {cells long : Int} (h : O2 H t bx x ps cells long) {Q : Post}
    (h1 : d5V ps x long = true → ∀ t' : Tm, t' 6 = iv 84 → Q .ret t' (rdy H)) (h2 : d5V ps x long = false → ∀ t' : Tm, O2 H t' bx x ps cells long → Q .normal t' (rdy H)) :
    wpA Try.prog (.seq (.region G5) (.cond (.tmp 159) (fail 84) .skip)) Q t (rdy H) := by
  rw [wpA_seq, wpA_region]
  refine q5 h fun ta ha ea => ?_
  exact fs_w ea (fun hv => h1 hv) (fun hv => h2 hv ta ha)
def plist : List ByteArray := [ByteArray.empty, ⟨#[97, 107]⟩, ⟨#[97, 98]⟩, ⟨#[112, 97, 98]⟩, ⟨#[111, 97, 98, 99]⟩, ⟨#[97, 98, 107]⟩, ⟨#[97, 98, 107]⟩, ⟨#[97, 114]⟩, ⟨#[97]⟩, ⟨#[116]⟩, ⟨#[97, 116]⟩, ⟨#[97, 116]⟩, ⟨#[97]⟩]
def parts (k : Int) : ByteArray := if valid k = true then plist.getD (k - 1).toNat ByteArray.empty else ⟨#[63]⟩
theorem parts_T {H : Heap} (hw : H.WF) (k : Int) (hk : okI k) : ∃ v H', T Try.prog 28 [iv k] H v H' ∧ v = .string (parts k) ∧ Same H H' [] := by
  refine T_by hm light28 ?_
  have hnB := hw.next_ge
  obtain ⟨cs, hcs⟩ : ∃ cs, cs = plist.map Value.string := ⟨_, rfl⟩
  have z13 : zerosA [.string ByteArray.empty] 13 = List.replicate 13 (.string ByteArray.empty) := rfl
  obtain ⟨H1, hH1⟩ : ∃ H1, H1 = H.new 9 1 cs := ⟨_, rfl⟩
  have l1 : ∀ off, H1.load ⟨H.next, off, none⟩ = cs[off]? := by rw [hH1]; exact new_load hw 9 1 cs
  have s1 : Same H H1 [] := fun b hb _ => by rw [hH1]; simp [show b ≠ H.next by omega]
  cases hv : valid k with
  | false =>
    have h1 : ¬ (1 ≤ k ∧ k ≤ 13) := by simpa [valid] using hv
    have e1 : parts k = ⟨#[63]⟩ := by unfold parts; rw [hv]; rfl
    have s2 : Same H (H.new 9 1 [.string ByteArray.empty, .string ⟨#[97, 107]⟩, .string ⟨#[97, 98]⟩, .string ⟨#[112, 97, 98]⟩, .string ⟨#[111, 97, 98, 99]⟩, .string ⟨#[97, 98, 107]⟩, .string ⟨#[97, 98, 107]⟩, .string ⟨#[97, 114]⟩, .string ⟨#[97]⟩, .string ⟨#[116]⟩, .string ⟨#[97, 116]⟩, .string ⟨#[97, 116]⟩, .string ⟨#[97]⟩]) [] := fun b hb _ => by simp [show b ≠ H.next by omega]
    by_cases h2 : k < 1
    · simp [L28, z13, List.replicate, h2, e1, s2]
    · have h3 : 13 < k := by omega
      simp [L28, z13, List.replicate, h2, h3, e1, s2]
  | true =>
    have h1 : 1 ≤ k ∧ k ≤ 13 := by simpa [valid] using hv
    have h2 : ¬ k < 1 := by omega
    have h3 : ¬ 13 < k := by omega
    have e0 : IntKind.i64.wrap (k - 1) = k - 1 := w64 _ (by omega)
    obtain ⟨j, hj⟩ : ∃ j : Nat, k - 1 = j := ⟨(k - 1).toNat, by omega⟩
    have hjl : j < 13 := by omega
    have e1 : parts k = plist.getD j ByteArray.empty := by unfold parts; rw [hv, hj]; rfl
    have lj : H1.load ⟨H.next, j, none⟩ = some (.string (plist[j]?.getD ByteArray.empty)) := by
      rw [l1, hcs, List.getElem?_map]
      have : j < plist.length := hjl
      simp [List.getD, this]
    have e9 : IntKind.i64.wrap (j : Int) = (j : Int) := w64 _ (by omega)
    rw [e1]
    simp [L28, z13, List.replicate, h2, h3]
    have hH1' : H.new 9 1 [.string ByteArray.empty, .string ⟨#[97, 107]⟩, .string ⟨#[97, 98]⟩, .string ⟨#[112, 97, 98]⟩, .string ⟨#[111, 97, 98, 99]⟩, .string ⟨#[97, 98, 107]⟩, .string ⟨#[97, 98, 107]⟩, .string ⟨#[97, 114]⟩, .string ⟨#[97]⟩, .string ⟨#[116]⟩, .string ⟨#[97, 116]⟩, .string ⟨#[97, 116]⟩, .string ⟨#[97]⟩] = H1 := by rw [hH1, hcs]; rfl
    rw [hH1']
    simp [hj, e9, hjl, lj, s1]
theorem oneR_T {H : Heap} (hw : H.WF) (x : In) (hk : okI x.kind) (cells long : Int) : ∃ v H', T Try.prog 12 [.agg (rowI x).toArray, iv cells, iv long] H v H' ∧ v = iv (oneRV (parts x.kind) x cells long) ∧ Same H H' [] := by
  refine T_by hm light12 ?_
  have hnB := hw.next_ge
  obtain ⟨H1, hH1⟩ : ∃ H1, H1 = H.new 25 6 (rowI x) := ⟨_, rfl⟩
  have w1 : H1.WF := by rw [hH1]; exact WF_new hw _ _ _
  have l1 : ∀ j, H1.load ⟨H.next, j, none⟩ = (rowI x)[j]? := by rw [hH1]; exact new_load hw 25 6 (rowI x)
  have n1 : H1.next = H.next + 1 := by rw [hH1]; rfl
  have k1 : ∀ b, b < H.next → H1.blk b = H.blk b := fun b hb => by rw [hH1]; simp [show b ≠ H.next by omega]
  obtain ⟨v2, H2, T2, rfl, s2⟩ := parts_T w1 x.kind hk
  have k2 : ∀ b, b < H1.next → H2.blk b = H1.blk b := fun b hb => s2 b hb (by simp)
  have lx : ∀ j, H2.load ⟨H.next, j, none⟩ = (rowI x)[j]? := fun j => by rw [load_frame T2.1 (k2 _ (by omega))]; exact l1 j
  have sm : Same H H2 [] := fun b hb _ => (k2 b (by omega)).trans (k1 b hb)
  have sz : (parts x.kind).size ≤ 1000000 := by
    cases hv : valid x.kind with
    | false => unfold parts; rw [hv, if_neg (by simp)]; decide
    | true => rcases kinds hv with h | h | h | h | h | h | h | h | h | h | h | h | h <;> rw [h] <;> decide
  obtain ⟨r, hr⟩ : ∃ r, r = oneRV (parts x.kind) x cells long := ⟨_, rfl⟩
  obtain ⟨ps, hps⟩ : ∃ ps, ps = parts x.kind := ⟨_, rfl⟩
  rw [← hr]
  rw [← hps] at hr T2 sz
  unfold oneRV at hr
  have lk : H1.load ⟨H.next, 0, none⟩ = some (iv x.kind) := l1 0
  rw [L12_eq]
  simp
  refine ⟨rfl, ?_⟩
  rw [← hH1]
  simp [lk]
  refine goT_of T2 ?_
  simp
  unfold Tl12
  rw [wpA_seq]
  refine st1 (bx := H.next) (x := x) (ps := ps) (cells := cells) (long := long) ⟨by simp, by simp, by simp, by simp, lx, sz⟩ (fun hv t' h6 => ?_) (fun hv1 t1 g1 => ?_)
  · rw [if_pos hv] at hr
    subst hr
    simp [h6]
    exact sm
  rw [thenA_normal, wpA_seq]
  refine st2 g1 (fun hv t' h6 => ?_) (fun hv2 t2 g2 => ?_)
  · rw [if_neg (by simp [hv1]), if_pos hv] at hr
    subst hr
    simp [h6]
    exact sm
  rw [thenA_normal, wpA_seq]
  refine st3 g2 (fun hv t' h6 => ?_) (fun hv3 t3 g3 => ?_)
  · rw [if_neg (by simp [hv1]), if_neg (by simp [hv2]), if_pos hv] at hr
    subst hr
    simp [h6]
    exact sm
  rw [thenA_normal, wpA_seq]
  refine st4 g3 (fun hv t' h6 => ?_) (fun hv4 t4 g4 => ?_)
  · rw [if_neg (by simp [hv1]), if_neg (by simp [hv2]), if_neg (by simp [hv3]), if_pos hv] at hr
    subst hr
    simp [h6]
    exact sm
  rw [thenA_normal, wpA_seq]
  refine st5 g4 (fun hv t' h6 => ?_) (fun hv5 t5 g5 => ?_)
  · rw [if_neg (by simp [hv1]), if_neg (by simp [hv2]), if_neg (by simp [hv3]), if_neg (by simp [hv4]), if_pos hv] at hr
    subst hr
    simp [h6]
    exact sm
  rw [thenA_normal]
  refine fail_w 0 (fun t' h6 => ?_)
  rw [if_neg (by simp [hv1]), if_neg (by simp [hv2]), if_neg (by simp [hv3]), if_neg (by simp [hv4]), if_neg (by simp [hv5])] at hr
  subst hr
  simp [h6]
  exact sm
/-- The document's answer is the program's. -/
theorem one_eq (x : In) (cells long : Int) : oneRV (parts x.kind) x cells long = oneV x cells long := by
  unfold oneRV oneV
  cases hv : valid x.kind with
  | false =>
    have : d1V (parts x.kind) x = true := by
      have e : parts x.kind = ⟨#[63]⟩ := by unfold parts; rw [hv]; rfl
      rw [e]
      unfold d1V
      have : ((⟨#[63]⟩ : ByteArray).toList == [63]) = true := by rw [ByteArray.toList_eq]; decide
      rw [this]; rfl
    rw [if_pos this, if_pos rfl]
  | true =>
    have q0 : ((parts x.kind).toList == [63]) = false := by rw [ByteArray.toList_eq]; rcases kinds hv with h | h | h | h | h | h | h | h | h | h | h | h | h <;> rw [h] <;> decide
    have q1 : hasB (parts x.kind) 111 = (shp x.kind).two := by rcases kinds hv with h | h | h | h | h | h | h | h | h | h | h | h | h <;> rw [h] <;> decide
    have q2 : hasB (parts x.kind) 112 = (shp x.kind).one := by rcases kinds hv with h | h | h | h | h | h | h | h | h | h | h | h | h <;> rw [h] <;> decide
    have q3 : hasB (parts x.kind) 97 = (shp x.kind).a := by rcases kinds hv with h | h | h | h | h | h | h | h | h | h | h | h | h <;> rw [h] <;> decide
    have q4 : hasB (parts x.kind) 98 = (shp x.kind).b := by rcases kinds hv with h | h | h | h | h | h | h | h | h | h | h | h | h <;> rw [h] <;> decide
    have q5 : hasB (parts x.kind) 99 = (shp x.kind).c := by rcases kinds hv with h | h | h | h | h | h | h | h | h | h | h | h | h <;> rw [h] <;> decide
    have q6 : hasB (parts x.kind) 114 = (shp x.kind).cell := by rcases kinds hv with h | h | h | h | h | h | h | h | h | h | h | h | h <;> rw [h] <;> decide
    have q7 : (!hasB (parts x.kind) 107 && !hasB (parts x.kind) 116) = !(shp x.kind).k := by rcases kinds hv with h | h | h | h | h | h | h | h | h | h | h | h | h <;> rw [h] <;> decide
    have q8 : hasB (parts x.kind) 116 = (shp x.kind).target := by rcases kinds hv with h | h | h | h | h | h | h | h | h | h | h | h | h <;> rw [h] <;> decide
    have w1 : d1V (parts x.kind) x = c2V (shp x.kind) x := by
      unfold d1V c2V; rw [q0, q1, q2]; simp
    have w2 : d2V (parts x.kind) x = c3V (shp x.kind) x := by
      unfold d2V c3V; rw [q3, q4, q5]
    have w3 : d3V (parts x.kind) x = c4V (shp x.kind) x := by
      unfold d3V c4V; rw [q7, q1, q2, q3, q4, q5, q6, Bool.and_comm (!(shp x.kind).two)]
    have w4 : d4V (parts x.kind) x cells = c5V (shp x.kind) x cells := by
      unfold d4V c5V; rw [q6]
      have e : (decide (cells ≤ x.c) || decide (4 ≤ x.c)) = decide ((if 4 < cells then 4 else cells) ≤ x.c) := by
        split <;> by_cases h1 : cells ≤ x.c <;> by_cases h2 : 4 ≤ x.c <;> simp [h1, h2] <;> omega
      rw [Bool.or_assoc, e]
    have w5 : d5V (parts x.kind) x long = c6V (shp x.kind) x long := by
      unfold d5V c6V; rw [q8]
    rw [w1, w2, w3, w4, w5, if_neg (by simp : ¬ (true = false))]
end Go.Proofs.Ytkocomnfomjfiaa
