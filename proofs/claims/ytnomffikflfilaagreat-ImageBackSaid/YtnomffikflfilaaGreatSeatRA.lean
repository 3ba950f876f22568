/-
  Chapter 26: the program's reader (carried over from chapter 8). Chapter 26: the program's reader: flags, texts (carried over from chapter 2). Chapter 26: instructions taken up (carried over from chapter 8). Chapter 26: instructions taken up (carried over from chapter 8). Chapter 26: instructions taken up (carried over from chapter 8). Chapter 26: instructions taken up (carried over from chapter 8). Chapter 26: what is encoded is decoded as it was (carried over from chapter 8).
-/
import Derived.Test.YtnomffikflfilaaGreatSeatI
import Derived.Test.YtnomffikflfilaaGreatOtZ
namespace Go.Proofs.YtnomffikflfilaaGreat.E8
open I8
open Go.Ot Go.RowKit
set_option linter.unusedSimpArgs false
set_option linter.unusedVariables false
set_option maxRecDepth 100000
structure RD (H : Heap) (p : Nat) (x : Value) (b : List Nat) (at' fail : Nat) : Prop where
  hp : ¬ p < H.B
  bp : H.blk p = some ⟨181, 3, [x, .int .i64 (at' : Int), .int .i64 (fail : Int)]⟩
  bs : Bs H x b
  px : blkOf x ≠ some p
  le : at' ≤ b.length
  lt : ∀ c ∈ b, c < 256
  small : b.length ≤ 140737488355328
abbrev rdC (x : Value) (at' fail : Nat) : List Value := [x, .int .i64 (at' : Int), .int .i64 (fail : Int)]
theorem Bs.put {H : Heap} {x : Value} {l : List Nat} (h : Bs H x l) {p : Nat} (cs : List Value) (hx : blkOf x ≠ some p) : Bs (H.put p cs) x l := by
  rcases h with h | ⟨b, off, c, rfl, h⟩
  · exact .inl h
  · refine .inr ⟨b, off, c, rfl, fun i hi => ?_⟩
    have hb : b ≠ p := fun e => hx (by rw [e]; rfl)
    rw [load_put, if_neg hb]
    split <;> exact h i hi
theorem RD.step {H : Heap} {p : Nat} {x : Value} {b : List Nat} {at' fail : Nat} (h : RD H p x b at' fail) (at2 fail2 : Nat) (hle : at2 ≤ b.length) : RD (H.put p (rdC x at2 fail2)) p x b at2 fail2 :=
  ⟨by simpa using h.hp, by simp [h.bp], h.bs.put _ h.px, h.px, hle, h.lt, h.small⟩
theorem RD.same {H : Heap} {p : Nat} {x : Value} {b : List Nat} {at' fail : Nat} (h : RD H p x b at' fail) : H.put p (rdC x at' fail) = H := put_self h.bp
theorem left_T {H : Heap} {p : Nat} {x : Value} {b : List Nat} {at' fail : Nat} (h : RD H p x b at' fail) :
    T Tryz.prog 123 [ptr p] H (.int .i64 ((if fail = 0 then b.length - at' else 0 : Nat) : Int)) H := by
  refine T_eq hm light123 ?_
  have l0 := fun off => load_at (off := off) h.hp h.bp
  obtain ⟨a, c, hx⟩ := h.bs.len
  have hle := h.le
  have hsm := h.small
  have e1 : IntKind.i64.wrap ((b.length : Int) - (at' : Int)) = ((b.length - at' : Nat) : Int) := by rw [w64 _ (by omega)]; omega
  subst hx
  by_cases hf : fail = 0
  · subst hf; simp [L123, l0, e1]
  · have hf2 : ((fail : Int) != 0) = true := bne_iff_ne.2 (by omega)
    simp [L123, l0, hf, hf2]
theorem fail_T {H : Heap} {p : Nat} {x : Value} {b : List Nat} {at' fail : Nat} (h : RD H p x b at' fail) : T Tryz.prog 51 [ptr p] H (.int .i64 (fail : Int)) H := by
  refine T_eq hm light51 ?_
  have l0 := fun off => load_at (off := off) h.hp h.bp
  simp [L51, l0]
theorem stop_T {H : Heap} {p : Nat} {x : Value} {b : List Nat} {at' fail : Nat} (h : RD H p x b at' fail) (e : Nat) :
    ∃ v, T Tryz.prog 94 [ptr p, .int .i64 (e : Int)] H v (H.put p (rdC x at' (if fail = 0 then e else fail))) := by
  have l0 := fun off => load_at (off := off) h.hp h.bp
  have s0 := fun off v => store_own (off := off) (v := v) h.hp h.bp
  have hs := h.same
  refine ⟨.tuple #[], T_eq hm light94 ?_⟩
  by_cases hf : fail = 0
  · subst hf; simp [L94, l0, s0, Go.Ot.packV]
  · have hf2 : ((fail : Int) == 0) = false := by simp; omega
    simp [L94, l0, s0, hf, hf2, Go.Ot.packV]
    exact hs.symm
def nx (b : List Nat) (at' fail : Nat) : Nat × Nat × Nat := if fail ≠ 0 then (0, at', fail) else if at' = b.length then (0, at', 20) else (b.getD at' 0, at' + 1, 0)
theorem next_T {H : Heap} {p : Nat} {x : Value} {b : List Nat} {at' fail : Nat} (h : RD H p x b at' fail) :
    T Tryz.prog 93 [ptr p] H (.int .u8 ((nx b at' fail).1 : Int)) (H.put p (rdC x (nx b at' fail).2.1 (nx b at' fail).2.2)) := by
  have l0 := fun off => load_at (off := off) h.hp h.bp
  have s0 := fun off v => store_own (off := off) (v := v) h.hp h.bp
  have hs := h.same
  obtain ⟨a, c, hx⟩ := h.bs.len
  have hle := h.le
  have hsm := h.small
  refine T_eq hm light93 ?_
  by_cases hf : fail = 0
  · subst hf
    by_cases ha : at' = b.length
    · subst ha
      obtain ⟨v, T1⟩ := stop_T h 20
      have h2 := h.step b.length 20 (Nat.le_refl _)
      have l2 := fun off => load_at (off := off) h2.hp h2.bp
      have e : nx b b.length 0 = (0, b.length, 20) := by simp [nx]
      rw [e]
      simp only [if_true] at T1
      subst hx
      simp [L93, l0]
      refine goT_of T1 ?_
      simp [l2]
    · have hlt : at' < b.length := by omega
      have hlt' : (at' : Int) < b.length := by omega
      have hai : ((at' : Int) == (b.length : Int)) = false := by simp; omega
      have e : nx b at' 0 = (b[at'], at' + 1, 0) := by simp [nx, ha, List.getD, hlt]
      have h2 := h.step (at' + 1) 0 (by omega)
      have l2 := fun off => load_at (off := off) h2.hp h2.bp
      have e1 : IntKind.i64.wrap ((at' : Int) + 1) = ((at' + 1 : Nat) : Int) := by rw [w64 _ (by omega)]; omega
      have e2 : IntKind.i64.wrap (((at' + 1 : Nat) : Int) - 1) = (at' : Int) := by rw [w64 _ (by omega)]; omega
      obtain ⟨bb, off, c', hx2, hld⟩ := h2.bs.at hlt
      rw [e]
      subst hx2
      obtain ⟨q, hq⟩ : ∃ q, q = at' + 1 := ⟨_, rfl⟩
      rw [← hq] at e1 e2 l2 h2 hld ⊢
      have l2' : ∀ o, (H.put p [.slice (some ⟨bb, off, none⟩) b.length c', .int .i64 (q : Int), .int .i64 0]).load ⟨p, o, none⟩ = [Value.slice (some ⟨bb, off, none⟩) b.length c', .int .i64 (q : Int), .int .i64 0][o]? := l2
      have hld' : (H.put p [.slice (some ⟨bb, off, none⟩) b.length c', .int .i64 (q : Int), .int .i64 0]).load ⟨bb, off + at', none⟩ = some (.int .u8 ((b[at'] : Nat) : Int)) := hld
      simp [L93, l0, hai, ha, s0, e1, l2', e2, hlt', hld']
      rfl
  · have e : nx b at' fail = (0, at', fail) := by simp [nx, hf]
    have hf2 : ((fail : Int) == 0) = false := by simp; omega
    have hf3 : ((fail : Int) != 0) = true := bne_iff_ne.2 (by omega)
    rw [e, hs]
    simp [L93, l0, hf, hf2, hf3]
theorem read_T2 {H : Heap} (hw : H.WF) {x : Value} {l : List Nat} (h : Bs H x l) (hlt : ∀ c ∈ l, c < 256) (hl : l.length ≤ 140737488355328) :
    ∃ v H', T Tryz.prog 49 [x] H v H' ∧ ∃ p y, v = ptr p ∧ RD H' p y l 0 0 ∧ H.next ≤ p ∧ H'.WF ∧ H'.base = H.base ∧ Same H H' [] ∧ (∀ b, blkOf y = some b → b < H'.next) ∧ (∀ b, blkOf y = some b → H.next ≤ b) := by
  refine T_by hm light49 ?_
  obtain ⟨a, HA, hap, aA⟩ := OG.pour hw (nil_own H) h.src (by simpa using hl)
  simp only [List.length_nil, Nat.zero_add, List.nil_append] at hap aA
  obtain ⟨xa, xc, hx⟩ := h.len
  rw [hx] at hap ⊢
  have hpB := aA.wf.next_ge
  simp [L49, hap]
  have k : ∀ b, b < HA.next → (HA.new 181 3 [.slice a l.length 0, .int .i64 0, .int .i64 0]).blk b = HA.blk b := fun b hb => by simp [show b ≠ HA.next by omega]
  refine ⟨.slice a l.length 0, ⟨by simpa using hpB, by simp, (own_bs aA.own).keep (H' := HA.new 181 3 [.slice a l.length 0, .int .i64 0, .int .i64 0]) aA.wf rfl k, ?_, Nat.zero_le _, hlt, hl⟩, aA.next, WF_new aA.wf _ _ _, aA.base, ?_, ?_, ?_⟩
  · intro hb
    have := aA.own.lt aA.wf hb
    omega
  · intro b hb _
    have := aA.next
    rw [k b (by omega)]
    exact aA.olds b hb
  · intro b hb
    have := aA.own.lt aA.wf hb
    omega
  · intro b hb
    rcases aA.old b hb with h1 | h1
    · cases h1
    · exact h1
structure RS (H : Heap) (p : Nat) (x : Value) (b l : List Nat) (fail : Nat) : Prop where
  rd : RD H p x b (b.length - l.length) fail
  suf : l <:+ b
abbrev rsC (x : Value) (b l : List Nat) (fail : Nat) : List Value := rdC x (b.length - l.length) fail
theorem RS.step {H : Heap} {p : Nat} {x : Value} {b l : List Nat} {fail : Nat} (h : RS H p x b l fail) {l2 : List Nat} (fail2 : Nat) (hs : l2 <:+ l) : RS (H.put p (rsC x b l2 fail2)) p x b l2 fail2 :=
  ⟨h.rd.step _ _ (by omega), hs.trans h.suf⟩
theorem RS.same {H : Heap} {p : Nat} {x : Value} {b l : List Nat} {fail : Nat} (h : RS H p x b l fail) : H.put p (rsC x b l fail) = H := h.rd.same
theorem RS.lt {H : Heap} {p : Nat} {x : Value} {b l : List Nat} {fail : Nat} (h : RS H p x b l fail) : ∀ c ∈ l, c < 256 := fun c hc => h.rd.lt c (h.suf.mem hc)
theorem RS.len {H : Heap} {p : Nat} {x : Value} {b l : List Nat} {fail : Nat} (h : RS H p x b l fail) : l.length ≤ 140737488355328 := Nat.le_trans h.suf.length_le h.rd.small
def nxS (l : List Nat) (fail : Nat) : Nat × List Nat × Nat := if fail ≠ 0 then (0, l, fail) else match l with
  | [] => (0, [], 20)
  | c :: l => (c, l, 0)
theorem next_S {H : Heap} {p : Nat} {x : Value} {b l : List Nat} {fail : Nat} (h : RS H p x b l fail) :
    T Tryz.prog 93 [ptr p] H (.int .u8 ((nxS l fail).1 : Int)) (H.put p (rsC x b (nxS l fail).2.1 (nxS l fail).2.2)) := by
  have h1 := next_T h.rd
  have hl := h.suf.length_le
  obtain ⟨pre, hb⟩ := h.suf
  by_cases hf : fail = 0
  · subst hf
    cases l with
    | nil =>
      have e : nx b (b.length - ([] : List Nat).length) 0 = (0, b.length, 20) := by simp [nx]
      rw [e] at h1
      exact h1
    | cons c l =>
      subst hb
      have e1 : (pre ++ c :: l).length - (c :: l).length = pre.length := by simp
      have e2 : nx (pre ++ c :: l) pre.length 0 = (c, pre.length + 1, 0) := by simp [nx]
      have e3 : (pre ++ c :: l).length - l.length = pre.length + 1 := by simp; omega
      rw [e1, e2] at h1
      have e4 : nxS (c :: l) 0 = (c, l, 0) := rfl
      rw [e4]
      simp only [rsC, e3]
      exact h1
  · have e : nx b (b.length - l.length) fail = (0, b.length - l.length, fail) := by simp [nx, hf]
    rw [e] at h1
    simpa [nxS, hf] using h1
theorem nxS_suf (l : List Nat) (fail : Nat) : (nxS l fail).2.1 <:+ l := by
  unfold nxS
  split
  · exact List.suffix_refl _
  · split
    · exact List.suffix_refl _
    · exact List.suffix_cons _ _
def tu : Nat → Nat → Nat → List Nat → Nat × List Nat × Nat
  | 0, _, a, l => (a, l, 0)
  | _ + 1, _, _, [] => (0, [], 20)
  | k + 1, i, a, c :: l => if (0 < i ∧ c = 0) ∨ (i = 9 ∧ 1 < c) then (0, l, 21) else if c < 128 then (a + c % 128 * 2 ^ (7 * i), l, 0) else tu k (i + 1) (a + c % 128 * 2 ^ (7 * i)) l
def uS (l : List Nat) (fail : Nat) : Nat × List Nat × Nat := if fail ≠ 0 then (0, l, fail) else tu 10 0 0 l
theorem tu_suf : ∀ (k i a : Nat) (l : List Nat), (tu k i a l).2.1 <:+ l
  | 0, i, a, l => List.suffix_refl _
  | k + 1, i, a, [] => List.suffix_refl _
  | k + 1, i, a, c :: l => by
    simp only [tu]
    split
    · exact List.suffix_cons _ _
    · split
      · exact List.suffix_cons _ _
      · exact (tu_suf k _ _ l).trans (List.suffix_cons _ _)
theorem uS_suf (l : List Nat) (fail : Nat) : (uS l fail).2.1 <:+ l := by
  unfold uS; split
  · exact List.suffix_refl _
  · exact tu_suf _ _ _ _
theorem units (i : Nat) (h : i ≤ 9) : ∃ U, U = 2 ^ (7 * i) ∧ 0 < U ∧ (i ≤ 8 → U ≤ 72057594037927936 ∧ 2 ^ (7 * (i + 1)) = U * 128) ∧ (i = 9 → U = 9223372036854775808) := by
  refine ⟨_, rfl, Nat.pow_pos (by decide), fun h8 => ⟨?_, ?_⟩, fun h9 => by subst h9; rfl⟩
  · rw [show 72057594037927936 = 2 ^ 56 from rfl]; exact Nat.pow_le_pow_right (by decide) (by omega)
  · rw [show 7 * (i + 1) = 7 * i + 7 by omega, Nat.pow_add]
def InvR (H : Heap) (p : Nat) (x : Value) (b : List Nat) (want : Nat × List Nat × Nat) (k : Nat) (t : Tm) (H1 : Heap) : Prop :=
  ∃ (i a : Nat) (l : List Nat), i + k = 10 ∧ t 0 = ptr p ∧ t 3 = .int .u64 (a : Int) ∧ t 6 = .int .i64 (i : Int) ∧ a < 2 ^ (7 * i) ∧ H1 = H.put p (rsC x b l 0) ∧ RS H1 p x b l 0 ∧ tu k i a l = want
theorem ruint_T {H : Heap} {p : Nat} {x : Value} {b l : List Nat} {fail : Nat} (h : RS H p x b l fail) :
    T Tryz.prog 50 [ptr p] H (.int .u64 ((uS l fail).1 : Int)) (H.put p (rsC x b (uS l fail).2.1 (uS l fail).2.2)) := by
  refine T_eq hm light50 ?_
  by_cases hf : fail = 0
  case neg =>
    have T1 := next_S h
    have e1 : nxS l fail = (0, l, fail) := by simp [nxS, hf]
    have e2 : uS l fail = (0, l, fail) := by simp [uS, hf]
    rw [e1] at T1
    rw [e2]
    simp only at T1 ⊢
    rw [h.same] at T1 ⊢
    simp [L50]
    refine loop_at (fun (k : Nat) (t : Tm) (H1 : Heap) => t 0 = ptr p ∧ t 6 = .int .i64 0 ∧ H1 = H) 10 ?_ ?_
    · simp
    · rintro k t H1 ⟨t0, t6, rfl⟩
      have l0 := fun off => load_at (off := off) h.rd.hp h.rd.bp
      simp [L50_1, t0, t6]
      refine goT_of T1 ?_
      simp [t0, l0, hf]
  subst hf
  have eu : uS l 0 = tu 10 0 0 l := by simp [uS]
  rw [eu]
  obtain ⟨want, hw⟩ : ∃ want, want = tu 10 0 0 l := ⟨_, rfl⟩
  rw [← hw]
  simp [L50]
  refine loop_at (InvR H p x b want) 10 ?_ ?_
  · exact ⟨0, 0, l, rfl, by simp, by simp, by simp, by simp, h.same.symm, h, hw.symm⟩
  · rintro k t H1 ⟨i, a, l, hik, t0, t3, t6, ha, hH1, hr, htu⟩
    cases k with
    | zero =>
      have : i = 10 := by omega
      subst this
      simp only [tu] at htu
      subst htu
      simp [L50_1, t0, t3, t6]
      exact hH1
    | succ k =>
      have hi : i < 10 := by omega
      have T1 := next_S hr
      cases l with
      | nil =>
        simp only [tu] at htu
        subst htu
        have e1 : nxS [] 0 = (0, [], 20) := rfl
        rw [e1] at T1
        have hr2 := hr.step (l2 := []) 20 (List.suffix_refl _)
        have l2 := fun off => load_at (off := off) hr2.rd.hp hr2.rd.bp
        simp [L50_1, t0, t3, t6, hi]
        refine goT_of T1 ?_
        simp [t0, l2]
        subst hH1
        simp [put_put]
      | cons c l =>
        have e1 : nxS (c :: l) 0 = (c, l, 0) := rfl
        rw [e1] at T1
        have hr2 := hr.step (l2 := l) 0 (List.suffix_cons _ _)
        have l2 := fun off => load_at (off := off) hr2.rd.hp hr2.rd.bp
        have hc := hr.lt c (by simp)
        obtain ⟨U, hU, U0, U8, U9⟩ := units i (by omega)
        simp only [tu] at htu
        simp only [rsC] at T1 hr2 l2
        obtain ⟨at2, hat⟩ : ∃ at2, at2 = b.length - l.length := ⟨_, rfl⟩
        obtain ⟨m, hmm⟩ : ∃ m, m = c % 128 := ⟨_, rfl⟩
        rw [← hU, ← hmm] at htu
        rw [← hU] at ha
        rw [← hat] at T1 hr2 l2
        by_cases hbad : (0 < i ∧ c = 0) ∨ (i = 9 ∧ 1 < c)
        · rw [if_pos hbad] at htu
          subst htu
          obtain ⟨v3, T3⟩ := stop_T hr2.rd 21
          simp only [if_true] at T3
          simp [L50_1, t0, t3, t6, hi]
          refine goT_of T1 ?_
          rcases hbad with ⟨h1, h2⟩ | ⟨h1, h2⟩
          · subst h2
            simp [t0, l2, h1]
            refine goT_of T3 ?_
            simp
            subst hH1
            simp [put_put, hat]
          · have e3 : ¬ c = 0 := by omega
            subst h1
            simp [t0, l2, h2, e3]
            refine goT_of T3 ?_
            simp
            subst hH1
            simp [put_put, hat]
        · rw [if_neg hbad] at htu
          have f1 : i = 9 → c ≤ 1 := by intro h; omega
          have e1 : sBin .and (.int .u8 (c : Int)) (.int .u8 127) = some (.int .u8 (m : Int)) := by
            rw [sBin_and]
            have := and_u8 c 127 hc (by omega)
            rw [show c &&& 127 = m by rw [hmm]; exact Nat.and_two_pow_sub_one_eq_mod c 7] at this
            exact congrArg (fun z => some (Value.int .u8 z)) this
          have e2 : IntKind.u64.wrap (m : Int) = (m : Int) := wu64 _ (by omega)
          have e3 : IntKind.i64.wrap (7 * (i : Int)) = ((7 * i : Nat) : Int) := by rw [w64 _ (by omega)]; omega
          obtain ⟨s, hs⟩ : ∃ s, s = m * U := ⟨_, rfl⟩
          have hs64 : s < 18446744073709551616 := by
            rw [hs]
            by_cases h9 : i = 9
            · have := f1 h9; rw [U9 h9]; omega
            · have := (U8 (by omega)).1
              have : m * U ≤ 127 * 72057594037927936 := Nat.mul_le_mul (by omega) this
              omega
          have haU : a < 18446744073709551616 := by
            by_cases h9 : i = 9
            · have := U9 h9; omega
            · have := (U8 (by omega)).1; omega
          have e4 : sBin .shl (.int .u64 (m : Int)) (.int .i64 ((7 * i : Nat) : Int)) = some (.int .u64 (s : Int)) := by
            rw [shl_u64 .i64 m (7 * i) (by omega), ← hU, ← hs, Nat.mod_eq_of_lt hs64]
          have hor : a ||| s = a + s := by
            rw [hs, hU, Nat.or_comm, Nat.mul_comm, ← Nat.two_pow_add_eq_or_of_lt (by rw [← hU]; exact ha)]; omega
          have e5 : sBin .or (.int .u64 (a : Int)) (.int .u64 (s : Int)) = some (.int .u64 ((a + s : Nat) : Int)) := by
            rw [sBin_or, or_u64 a s haU hs64, hor]
          have g1 : 0 < i → ¬ c = 0 := fun h1 h2 => hbad (.inl ⟨h1, h2⟩)
          have e6 : (i : Int) + 1 = ((i + 1 : Nat) : Int) := by omega
          have e7 : IntKind.i64.wrap ((i : Int) + 1) = ((i + 1 : Nat) : Int) := by rw [w64 _ (by omega)]; omega
          obtain ⟨j, hj⟩ : ∃ j, j = 7 * i := ⟨_, rfl⟩
          obtain ⟨i1, hi1⟩ : ∃ i1, i1 = i + 1 := ⟨_, rfl⟩
          obtain ⟨a1, ha1⟩ : ∃ a1, a1 = a + s := ⟨_, rfl⟩
          rw [← hj] at e3 e4
          rw [← hi1] at e7
          rw [← ha1] at e5
          rw [← hs, ← ha1] at htu
          simp [L50_1, t0, t3, t6, hi]
          refine goT_of T1 ?_
          by_cases h128 : c < 128
          · have g3 := h128
            rw [if_pos h128] at htu
            subst htu
            by_cases hi0 : i = 0
            · have g5 : ¬ 0 < i := by omega
              have h9 : ¬ i = 9 := by omega
              simp [t0, t3, t6, l2, e1, e2, e3, e4, e5, g3, g5, h9]
              subst hH1
              simp [put_put, hat]
            · have g5 : 0 < i := by omega
              have hc0 : ¬ c = 0 := g1 g5
              have g4 := g5
              by_cases h9 : i = 9
              · have := f1 h9
                have g7 : ¬ 1 < c := by omega
                have h9d : decide (i = 9) = true := by simp [h9]
                simp [t0, t3, t6, l2, e1, e2, e3, e4, e5, g3, hc0, g5, g7, h9d]
                subst hH1
                simp [put_put, hat]
              · simp [t0, t3, t6, l2, e1, e2, e3, e4, e5, g3, hc0, g5, h9]
                subst hH1
                simp [put_put, hat]
          · have g3 := h128
            rw [if_neg h128] at htu
            have h9 : ¬ i = 9 := fun h => by have := f1 h; omega
            have hc0 : ¬ c = 0 := by omega
            have fin : a1 < 2 ^ (7 * i1) := by
              have h8 := (U8 (by omega)).2
              rw [hi1, h8, ha1, hs]
              have : m * U ≤ 127 * U := Nat.mul_le_mul_right _ (by omega)
              omega
            have fin2 : H1.put p (rdC x at2 0) = H.put p (rsC x b l 0) := by subst hH1; simp [put_put, hat]
            by_cases hi0 : i = 0
            · have g5 : ¬ 0 < i := by omega
              simp [t0, t3, t6, l2, e1, e2, e3, e4, e5, g3, g5, h9, e7]
              exact ⟨k, Nat.lt_succ_self k, i1, a1, l, by omega, by simp [t0], by simp, by simp, fin, fin2, ⟨hr2.rd, hr2.suf⟩, by rw [hi1]; exact htu⟩
            · have g5 : 0 < i := by omega
              simp [t0, t3, t6, l2, e1, e2, e3, e4, e5, g3, hc0, g5, h9, e7]
              exact ⟨k, Nat.lt_succ_self k, i1, a1, l, by omega, by simp [t0], by simp, by simp, fin, fin2, ⟨hr2.rd, hr2.suf⟩, by rw [hi1]; exact htu⟩
theorem left_S {H : Heap} {p : Nat} {x : Value} {b l : List Nat} {fail : Nat} (h : RS H p x b l fail) :
    T Tryz.prog 123 [ptr p] H (.int .i64 ((if fail = 0 then l.length else 0 : Nat) : Int)) H := by
  have := left_T h.rd
  have hl := h.suf.length_le
  rw [show b.length - (b.length - l.length) = l.length by omega] at this
  exact this
theorem fail_S {H : Heap} {p : Nat} {x : Value} {b l : List Nat} {fail : Nat} (h : RS H p x b l fail) : T Tryz.prog 51 [ptr p] H (.int .i64 (fail : Int)) H := fail_T h.rd
theorem load_off {H H' : Heap} (hb : H'.base = H.base) {b off : Nat} (hk : H'.blk b = H.blk b) : H'.load ⟨b, off, none⟩ = H.load ⟨b, off, none⟩ := by
  by_cases hB : b < H.B
  · exact load_ext hb hB
  · have hB' : ¬ b < H'.B := by rw [B_eq hb]; exact hB
    simp [Heap.load, hB, hB', hk]
theorem Bs.frame {H H' : Heap} {x : Value} {l : List Nat} (h : Bs H x l) (hb : H'.base = H.base) (hk : ∀ b, blkOf x = some b → H'.blk b = H.blk b) : Bs H' x l := by
  rcases h with h | ⟨b, off, c, rfl, h⟩
  · exact .inl h
  · exact .inr ⟨b, off, c, rfl, fun i hi => by rw [load_off hb (hk b rfl)]; exact h i hi⟩
theorem RS.frame {H H' : Heap} {p : Nat} {x : Value} {b l : List Nat} {fail : Nat} (h : RS H p x b l fail) (hb : H'.base = H.base) (hp : H'.blk p = H.blk p) (hk : ∀ b, blkOf x = some b → H'.blk b = H.blk b) : RS H' p x b l fail :=
  ⟨⟨by rw [B_eq hb]; exact h.rd.hp, by rw [hp]; exact h.rd.bp, h.rd.bs.frame hb hk, h.rd.px, h.rd.le, h.rd.lt, h.rd.small⟩, h.suf⟩
theorem tu_lt : ∀ (k i a : Nat) (l : List Nat), i + (k + 1) = 10 → a < 2 ^ (7 * i) → (∀ c ∈ l, c < 256) → (tu (k + 1) i a l).1 < 18446744073709551616
  | k, i, a, [], _, _, _ => by simp [tu]
  | k, i, a, c :: l, hik, ha, hl => by
    obtain ⟨U, hU, U0, U8, U9⟩ := units i (by omega)
    have hc := hl c (by simp)
    simp only [tu]
    rw [← hU] at ha ⊢
    have hm : c % 128 < 128 := Nat.mod_lt _ (by decide)
    split
    · exact (by decide : (0 : Nat) < 18446744073709551616)
    · rename_i hbad
      split
      · by_cases h9 : i = 9
        · have := U9 h9
          have : c % 128 ≤ 1 := by omega
          have : c % 128 * U ≤ 1 * U := Nat.mul_le_mul_right _ this
          simp only
          omega
        · have := (U8 (by omega)).1
          have : c % 128 * U ≤ 127 * U := Nat.mul_le_mul_right _ (by omega)
          simp only
          omega
      · cases k with
        | zero => omega
        | succ k =>
          refine tu_lt k (i + 1) _ l (by omega) ?_ (fun c hc => hl c (by simp [hc]))
          rw [(U8 (by omega)).2]
          have : c % 128 * U ≤ 127 * U := Nat.mul_le_mul_right _ (by omega)
          omega
theorem uS_lt (l : List Nat) (fail : Nat) (hl : ∀ c ∈ l, c < 256) : (uS l fail).1 < 18446744073709551616 := by
  unfold uS; split
  · simp
  · exact tu_lt 9 0 0 l rfl (by decide) hl
theorem encU_pos (n : Nat) : 0 < (encU n).length := by rw [encU]; split <;> simp
def unzz (u : Nat) : Int := if u % 2 = 0 then ((u / 2 : Nat) : Int) else -((u / 2 : Nat) : Int) - 1
def iS (l : List Nat) (fail : Nat) : Int × List Nat × Nat := (unzz (uS l fail).1, (uS l fail).2.1, (uS l fail).2.2)
def leftN (l : List Nat) (fail : Nat) : Nat := if fail = 0 then l.length else 0
def atLeast (n : Int) : Nat := if n < 1 then 1 else n.toNat
def countS (l : List Nat) (fail : Nat) (least : Int) : Nat × List Nat × Nat :=
  if leftN (uS l fail).2.1 (uS l fail).2.2 / atLeast least < (uS l fail).1 then (0, (uS l fail).2.1, if (uS l fail).2.2 = 0 then 20 else (uS l fail).2.2) else uS l fail
def endN (l : List Nat) (fail : Nat) : Nat := if fail = 0 ∧ 0 < l.length then 21 else fail
theorem tu_fail : ∀ (k i a : Nat) (l : List Nat), (tu k i a l).2.2 ≠ 0 → (tu k i a l).1 = 0
  | 0, i, a, l, h => absurd rfl h
  | k + 1, i, a, [], h => rfl
  | k + 1, i, a, c :: l, h => by
    simp only [tu] at h ⊢
    split
    · rfl
    · rename_i h1
      rw [if_neg h1] at h
      split
      · rename_i h2
        rw [if_pos h2] at h
        exact absurd rfl h
      · rename_i h2
        rw [if_neg h2] at h
        exact tu_fail k _ _ l h
theorem uS_fail (l : List Nat) (fail : Nat) (h : (uS l fail).2.2 ≠ 0) : (uS l fail).1 = 0 := by
  unfold uS at h ⊢
  split
  · rfl
  · rename_i h1
    rw [if_neg h1] at h
    exact tu_fail _ _ _ _ h
theorem countS_le (l : List Nat) (fail : Nat) (least : Int) (h : (countS l fail least).2.2 = 0) : (countS l fail least).1 ≤ (countS l fail least).2.1.length := by
  unfold countS at h ⊢
  split
  · rename_i h1
    rw [if_pos h1] at h
    simp at h
    split at h
    · cases h
    · contradiction
  · rename_i h1
    rw [if_neg h1] at h
    simp only [leftN, h, if_true] at h1
    have : (uS l fail).2.1.length / atLeast least ≤ (uS l fail).2.1.length := Nat.div_le_self _ _
    omega
theorem countS_suf (l : List Nat) (fail : Nat) (least : Int) : (countS l fail least).2.1 <:+ l := by
  unfold countS; split <;> exact uS_suf l fail
theorem xor_0 (s : Nat) (hs : s < 9223372036854775808) : sBin .xor (.int .i64 (s : Int)) (.int .i64 0) = some (.int .i64 (s : Int)) := by
  rw [sBin_xor]
  have e : (BitVec.ofInt IntKind.i64.bits (s : Int)).toNat = s := bits_u64 s (by omega)
  have e0 : (BitVec.ofInt IntKind.i64.bits (0 : Int)).toNat = 0 := rfl
  rw [BitVec.toNat_xor, e, e0, Nat.xor_zero, w64 _ (by omega)]
theorem xor_1 (s : Nat) (hs : s < 9223372036854775808) : sBin .xor (.int .i64 (s : Int)) (.int .i64 (-1)) = some (.int .i64 (-(s : Int) - 1)) := by
  rw [sBin_xor]
  have e : (BitVec.ofInt IntKind.i64.bits (s : Int)).toNat = s := bits_u64 s (by omega)
  have e0 : (BitVec.ofInt IntKind.i64.bits (-1 : Int)).toNat = 18446744073709551615 := rfl
  rw [BitVec.toNat_xor, e, e0, xor_ones s (by omega)]
  congr 2
  simp only [IntKind.wrap, IntKind.bits, IntKind.signed]
  have : ((18446744073709551615 - s : Nat) : Int) = 18446744073709551615 - (s : Int) := by omega
  rw [this]
  simp
  omega
theorem rint_T {H : Heap} {p : Nat} {x : Value} {b l : List Nat} {fail : Nat} (h : RS H p x b l fail) :
    T Tryz.prog 96 [ptr p] H (.int .i64 (iS l fail).1) (H.put p (rsC x b (iS l fail).2.1 (iS l fail).2.2)) := by
  refine T_eq hm light96 ?_
  have T1 := ruint_T h
  have hlt := uS_lt l fail h.lt
  unfold iS
  obtain ⟨u, hu⟩ : ∃ u, u = (uS l fail).1 := ⟨_, rfl⟩
  rw [← hu] at T1 hlt ⊢
  obtain ⟨G, hG⟩ : ∃ G, G = H.put p (rsC x b (uS l fail).2.1 (uS l fail).2.2) := ⟨_, rfl⟩
  simp only
  rw [← hG] at T1 ⊢
  have e1 : sBin .shr (.int .u64 (u : Int)) (.int .u64 1) = some (.int .u64 ((u / 2 : Nat) : Int)) := shr_nat .u64 .u64 u 1 (by decide)
  have e2 : sBin .and (.int .u64 (u : Int)) (.int .u64 1) = some (.int .u64 ((u % 2 : Nat) : Int)) := by
    rw [sBin_and]
    have := and_u64 u 1 hlt (by omega)
    rw [Nat.and_one_is_mod] at this
    exact congrArg (fun z => some (Value.int .u64 z)) this
  obtain ⟨s, hs⟩ : ∃ s, s = u / 2 := ⟨_, rfl⟩
  have hs63 : s < 9223372036854775808 := by omega
  have e3 : IntKind.i64.wrap (s : Int) = (s : Int) := w64 _ (by omega)
  have x0 := xor_0 s hs63
  have x1 := xor_1 s hs63
  rw [← hs] at e1
  unfold unzz
  rw [← hs]
  by_cases hz : u % 2 = 0
  · rw [hz] at e2
    rw [if_pos hz]
    simp [L96]
    refine goT_of T1 ?_
    simp [e1, e2, e3, x0]
  · have h1 : u % 2 = 1 := by omega
    rw [h1] at e2
    rw [if_neg hz]
    simp [L96]
    refine goT_of T1 ?_
    simp [e1, e2, e3, x1, show IntKind.i64.wrap (-1) = -1 by decide]
theorem rend_T {H : Heap} {p : Nat} {x : Value} {b l : List Nat} {fail : Nat} (h : RS H p x b l fail) : T Tryz.prog 57 [ptr p] H (.int .i64 (endN l fail : Int)) H := by
  refine T_eq hm light57 ?_
  have l0 := fun off => load_at (off := off) h.rd.hp h.rd.bp
  obtain ⟨a, c, hx⟩ := h.rd.bs.len
  have hsl := h.suf.length_le
  subst hx
  by_cases hf : fail = 0
  · subst hf
    by_cases h1 : 0 < l.length
    · have e1 : b.length - l.length < b.length := by omega
      simp [L57, l0, endN, h1, e1]
    · have e1 : ¬ b.length - l.length < b.length := by omega
      simp [L57, l0, endN, h1, e1]
  · simp [L57, l0, endN, hf]
def okI2 (n : Int) : Prop := -9223372036854775808 ≤ n ∧ n ≤ 9223372036854775807
theorem rcount_T {H : Heap} {p : Nat} {x : Value} {b l : List Nat} {fail : Nat} (h : RS H p x b l fail) (least : Int) (hle : okI2 least) :
    T Tryz.prog 95 [ptr p, .int .i64 least] H (.int .i64 ((countS l fail least).1 : Int)) (H.put p (rsC x b (countS l fail least).2.1 (countS l fail least).2.2)) := by
  refine T_eq hm light95 ?_
  have T1 := ruint_T h
  have hlt := uS_lt l fail h.lt
  have h2 := h.step (l2 := (uS l fail).2.1) (uS l fail).2.2 (uS_suf l fail)
  have hsl := (uS_suf l fail).length_le
  have hln := h.len
  have hp : ∀ c1 c2, (H.put p c1).put p c2 = H.put p c2 := fun c1 c2 => put_put _ _ _ _
  unfold countS
  obtain ⟨u, hu⟩ : ∃ u, u = (uS l fail).1 := ⟨_, rfl⟩
  obtain ⟨l2, hl2⟩ : ∃ l2, l2 = (uS l fail).2.1 := ⟨_, rfl⟩
  obtain ⟨f, hf⟩ : ∃ f, f = (uS l fail).2.2 := ⟨_, rfl⟩
  have hup : uS l fail = (u, l2, f) := by rw [hu, hl2, hf]
  rw [hup] at T1 ⊢
  rw [← hl2, ← hf] at h2
  rw [← hu] at hlt
  rw [← hl2] at hsl
  simp only at T1 ⊢
  have T2 := left_S h2
  obtain ⟨v3, T3⟩ := stop_T h2.rd 20
  rw [hp] at T3
  obtain ⟨m, hm'⟩ : ∃ m, m = leftN l2 f := ⟨_, rfl⟩
  have hml : m ≤ 140737488355328 := by
    rw [hm']; unfold leftN; split
    · omega
    · exact Nat.zero_le _
  have em : (if f = 0 then l2.length else 0 : Nat) = m := by rw [hm']; rfl
  rw [em] at T2
  rw [← hm']
  obtain ⟨k, hk⟩ : ∃ k, k = atLeast least := ⟨_, rfl⟩
  have hk0 : k ≠ 0 := by rw [hk]; unfold atLeast; split <;> omega
  have hkl : k ≤ 9223372036854775807 := by rw [hk]; unfold atLeast; unfold okI2 at hle; split <;> omega
  rw [← hk]
  have c1 : IntKind.u64.wrap (m : Int) = (m : Int) := wu64 _ (by omega)
  have c2 : IntKind.u64.wrap (k : Int) = (k : Int) := wu64 _ (by omega)
  have q := quo_u64 m k hk0 (by omega)
  obtain ⟨d, hd⟩ : ∃ d, d = m / k := ⟨_, rfl⟩
  have hdl : d ≤ 140737488355328 := by rw [hd]; exact Nat.le_trans (Nat.div_le_self _ _) hml
  rw [← hd] at q ⊢
  have hmax : (if least < 1 then (1 : Int) else least) = (k : Int) := by
    rw [hk]; unfold atLeast; split
    · rfl
    · omega
  obtain ⟨G, hG⟩ : ∃ G, G = H.put p (rsC x b l2 f) := ⟨_, rfl⟩
  rw [← hG] at T1 T2 T3
  by_cases hdu : d < u
  · rw [if_pos hdu]
    simp only
    simp [L95]
    refine goT_of T1 ?_
    simp
    refine goT_of T2 ?_
    simp [c1, hmax, c2, q, hdu]
    refine goT_of T3 ?_
    simp
  · rw [if_neg hdu]
    simp only
    rw [← hG]
    have c3 : IntKind.i64.wrap (u : Int) = (u : Int) := w64 _ (by omega)
    simp [L95]
    refine goT_of T1 ?_
    simp
    refine goT_of T2 ?_
    simp [c1, hmax, c2, q, hdu, c3]
structure Xt (H0 H : Heap) : Prop where
  base : H.base = H0.base
  next : H0.next ≤ H.next
  wf0 : H0.WF
  wf : H.WF
  old : ∀ b, b < H0.next → H.blk b = H0.blk b
theorem Xt.refl {H : Heap} (hw : H.WF) : Xt H H := ⟨rfl, Nat.le_refl _, hw, hw, fun _ _ => rfl⟩
theorem Xt.trans {H0 H H2 : Heap} (h : Xt H0 H) (g : Xt H H2) : Xt H0 H2 := ⟨g.base.trans h.base, Nat.le_trans h.next g.next, h.wf0, g.wf, fun b hb => (g.old b (Nat.lt_of_lt_of_le hb h.next)).trans (h.old b hb)⟩
theorem Xt.new {H0 H : Heap} (h : Xt H0 H) (ty sz : Nat) (c : List Value) : Xt H0 (H.new ty sz c) :=
  ⟨h.base, Nat.le_trans h.next (by simp), h.wf0, WF_new h.wf _ _ _, fun b hb => by have := h.next; simp [show b ≠ H.next by omega, h.old b hb]⟩
theorem Xt.put {H0 H : Heap} (h : Xt H0 H) {p : Nat} (hp : H0.next ≤ p) (c : List Value) : Xt H0 (H.put p c) :=
  ⟨by simpa using h.base, by simpa using h.next, h.wf0, WF_put h.wf _ _, fun b hb => by simp [show b ≠ p by omega, h.old b hb]⟩
theorem Xt.call {H0 H H' : Heap} (h : Xt H0 H) {f : FuncId} {args : List Value} {v : Value} (hT : T Tryz.prog f args H v H') (hs : Same H H' []) : Xt H0 H' :=
  ⟨hT.1.trans h.base, Nat.le_trans h.next hT.grow.next, h.wf0, hT.grow.wf h.wf, fun b hb => (hs b (Nat.lt_of_lt_of_le hb h.next) (by simp)).trans (h.old b hb)⟩
theorem Xt.same {H0 H : Heap} (h : Xt H0 H) : Same H0 H [] := fun b hb _ => h.old b hb
theorem Xt.bs {H0 H : Heap} (h : Xt H0 H) {x : Value} {l : List Nat} (hx : Bs H0 x l) : Bs H x l := hx.keep h.wf0 h.base h.old
theorem Bs.slice {H : Heap} {x : Value} {l : List Nat} (h : Bs H x l) : ∃ a n c, x = .slice a n c := by
  obtain ⟨a, c, h⟩ := h.len
  exact ⟨a, _, c, h⟩
theorem tu_of : ∀ (k i a n : Nat) (r : List Nat), i + (k + 1) = 10 → n * 2 ^ (7 * i) < 18446744073709551616 → (0 < i → n ≠ 0) → tu (k + 1) i a (encU n ++ r) = (a + n * 2 ^ (7 * i), r, 0)
  | k, i, a, n, r, hik, hn, h0 => by
    obtain ⟨U, hU, U0, U8, U9⟩ := units i (by omega)
    rw [← hU] at hn ⊢
    have h9 : i = 9 → n ≤ 1 := by
      intro h
      have := U9 h
      rw [this] at hn
      omega
    by_cases hs : n < 128
    · rw [encU_small hs]
      simp only [List.singleton_append, tu]
      rw [if_neg (by intro h; rcases h with ⟨h1, h2⟩ | ⟨h1, h2⟩
                     · exact h0 h1 h2
                     · have := h9 h1; omega), if_pos hs, ← hU, Nat.mod_eq_of_lt hs]
    · rw [encU_big hs]
      simp only [List.cons_append, tu]
      rw [if_neg (by omega), if_neg (by omega)]
      cases k with
      | zero => have := h9 (by omega); omega
      | succ k =>
        have h8 : i ≤ 8 := by omega
        have e := (U8 h8).2
        have hdm : n % 128 + 128 * (n / 128) = n := Nat.mod_add_div n 128
        have hm : (n % 128 + 128) % 128 = n % 128 := by omega
        have hmul : n / 128 * (U * 128) = (128 * (n / 128)) * U := by rw [Nat.mul_comm U 128, ← Nat.mul_assoc, Nat.mul_comm (n / 128) 128]
        have hle : 128 * (n / 128) * U ≤ n * U := Nat.mul_le_mul_right _ (by omega)
        rw [tu_of k (i + 1) _ (n / 128) r (by omega) (by rw [e, hmul]; omega) (fun _ => by omega), e, ← hU, hm, hmul]
        congr 1
        rw [Nat.add_assoc, ← Nat.add_mul, hdm]
theorem uS_of {n : Nat} (hn : n < 18446744073709551616) (r : List Nat) : uS (encU n ++ r) 0 = (n, r, 0) := by
  have e : uS (encU n ++ r) 0 = tu 10 0 0 (encU n ++ r) := by simp [uS]
  rw [e, tu_of 9 0 0 n r rfl (by simpa using hn) (fun h => absurd h (by omega))]
  simp
theorem unzz_zz (n : Int) : unzz (zz n) = n := by
  unfold unzz zz
  split <;> split <;> omega
theorem iS_of {n : Int} (hn : -9223372036854775808 ≤ n ∧ n ≤ 9223372036854775807) (r : List Nat) : iS (encU (zz n) ++ r) 0 = (n, r, 0) := by
  unfold iS
  rw [uS_of (zz_lt hn)]
  simp only [unzz_zz]
theorem countS_of {n : Nat} {r : List Nat} (hn : n < 18446744073709551616) (h : n ≤ r.length) : countS (encU n ++ r) 0 1 = (n, r, 0) := by
  unfold countS
  rw [uS_of hn]
  have e : leftN r 0 / atLeast 1 = r.length := by simp [leftN, atLeast]
  simp only
  rw [e, if_neg (by omega)]
end Go.Proofs.YtnomffikflfilaaGreat.E8
namespace Go.Proofs.YtnomffikflfilaaGreat.E8
open I8
open Go.Ot
set_option linter.unusedSimpArgs false
set_option linter.unusedVariables false
set_option maxRecDepth 100000
def flagS (l : List Nat) (fail : Nat) : Bool × List Nat × Nat :=
  if 1 < (nxS l fail).1 then (false, (nxS l fail).2.1, if (nxS l fail).2.2 = 0 then 21 else (nxS l fail).2.2) else (decide ((nxS l fail).1 = 1), (nxS l fail).2.1, (nxS l fail).2.2)
def textS (l : List Nat) (fail : Nat) : List Nat × List Nat × Nat :=
  if (countS l fail 1).2.2 ≠ 0 then ([], (countS l fail 1).2.1, (countS l fail 1).2.2) else ((countS l fail 1).2.1.take (countS l fail 1).1, (countS l fail 1).2.1.drop (countS l fail 1).1, 0)
theorem rflag_T {H : Heap} {p : Nat} {x : Value} {b l : List Nat} {fail : Nat} (h : RS H p x b l fail) :
    T Tryz.prog 55 [ptr p] H (.bool (flagS l fail).1) (H.put p (rsC x b (flagS l fail).2.1 (flagS l fail).2.2)) := by
  refine T_eq hm light55 ?_
  have T1 := next_S h
  have h2 := h.step (l2 := (nxS l fail).2.1) (nxS l fail).2.2 (nxS_suf l fail)
  have hp : ∀ c1 c2, (H.put p c1).put p c2 = H.put p c2 := fun c1 c2 => put_put _ _ _ _
  unfold flagS
  obtain ⟨c, hc⟩ : ∃ c, c = (nxS l fail).1 := ⟨_, rfl⟩
  obtain ⟨l2, hl2⟩ : ∃ l2, l2 = (nxS l fail).2.1 := ⟨_, rfl⟩
  obtain ⟨f, hf⟩ : ∃ f, f = (nxS l fail).2.2 := ⟨_, rfl⟩
  rw [← hc, ← hl2, ← hf] at T1 ⊢
  rw [← hl2, ← hf] at h2
  obtain ⟨v3, T3⟩ := stop_T h2.rd 21
  rw [hp] at T3
  obtain ⟨G, hG⟩ : ∃ G, G = H.put p (rsC x b l2 f) := ⟨_, rfl⟩
  rw [← hG] at T1 T3
  by_cases h1 : 1 < c
  · rw [if_pos h1]
    simp [L55]
    refine goT_of T1 ?_
    simp [h1]
    refine goT_of T3 ?_
    simp
  · rw [if_neg h1]
    simp only
    rw [← hG]
    simp [L55]
    refine goT_of T1 ?_
    simp [h1]
theorem Bs.part3 {H : Heap} {x : Value} {l : List Nat} (h : Bs H x l) (lo hi : Nat) (h1 : lo ≤ hi) (h2 : hi ≤ l.length) :
    ∃ y, sSlice 1 x (some (.int .i64 (lo : Int))) (some (.int .i64 (hi : Int))) (some (.int .i64 (hi : Int))) = some y ∧ Bs H y ((l.take hi).drop lo) := by
  rcases h with ⟨rfl, rfl⟩ | ⟨b, off, c, rfl, h⟩
  · have e1 : hi = 0 := by simpa using h2
    subst e1
    have e2 : lo = 0 := by omega
    subst e2
    exact ⟨.slice none 0 0, by simp [sSlice, bnd], .inl ⟨rfl, rfl⟩⟩
  · refine ⟨.slice (some ⟨b, off + lo, none⟩) (hi - lo) 1, ?_, sub_bs (n := 0) (c := 0) h lo hi h1 h2 _⟩
    simp [sSlice, bnd, h1, h2, add_own]
theorem textS_suf (l : List Nat) (fail : Nat) : (textS l fail).2.1 <:+ l := by
  unfold textS; split
  · exact countS_suf l fail 1
  · exact (List.drop_suffix _ _).trans (countS_suf l fail 1)
theorem rtext_T {H : Heap} {p : Nat} {x : Value} {b l : List Nat} {fail : Nat} (h : RS H p x b l fail) :
    T Tryz.prog 98 [ptr p] H (.string (strB (textS l fail).1)) (H.put p (rsC x b (textS l fail).2.1 (textS l fail).2.2)) := by
  refine T_eq hm light98 ?_
  have T1 := rcount_T h 1 (by unfold okI2; omega)
  have h2 := h.step (l2 := (countS l fail 1).2.1) (countS l fail 1).2.2 (countS_suf l fail 1)
  have hle := countS_le l fail 1
  have hp : ∀ c1 c2, (H.put p c1).put p c2 = H.put p c2 := fun c1 c2 => put_put _ _ _ _
  unfold textS
  obtain ⟨n, hn⟩ : ∃ n, n = (countS l fail 1).1 := ⟨_, rfl⟩
  obtain ⟨l2, hl2⟩ : ∃ l2, l2 = (countS l fail 1).2.1 := ⟨_, rfl⟩
  obtain ⟨f, hf⟩ : ∃ f, f = (countS l fail 1).2.2 := ⟨_, rfl⟩
  have hup : countS l fail 1 = (n, l2, f) := by rw [hn, hl2, hf]
  rw [hup] at T1 ⊢
  rw [← hl2, ← hf] at h2
  rw [← hn, ← hl2, ← hf] at hle
  simp only at T1 ⊢
  have l2' := fun off => load_at (off := off) h2.rd.hp h2.rd.bp
  have s2 := fun off v => store_own (off := off) (v := v) h2.rd.hp h2.rd.bp
  have hs2 := h2.suf.length_le
  have hsm := h2.rd.small
  by_cases hf0 : f = 0
  case neg =>
    rw [if_pos hf0]
    simp only
    obtain ⟨G, hG⟩ : ∃ G, G = H.put p (rsC x b l2 f) := ⟨_, rfl⟩
    rw [← hG] at T1 l2' ⊢
    simp [L98]
    refine goT_of T1 ?_
    simp [l2', hf0]
    rfl
  subst hf0
  have hle' := hle rfl
  obtain ⟨at1, ha1⟩ : ∃ at1, at1 = b.length - l2.length := ⟨_, rfl⟩
  obtain ⟨at2, ha2⟩ : ∃ at2, at2 = at1 + n := ⟨_, rfl⟩
  have e1 : IntKind.i64.wrap ((at1 : Int) + (n : Int)) = (at2 : Int) := by rw [w64 _ (by omega)]; omega
  have e2 : IntKind.i64.wrap ((at2 : Int) - (n : Int)) = (at1 : Int) := by rw [w64 _ (by omega)]; omega
  have hat2 : b.length - (l2.drop n).length = at2 := by rw [List.length_drop]; omega
  have h3 := h.step (l2 := l2.drop n) 0 ((List.drop_suffix _ _).trans (by rw [hl2]; exact countS_suf l fail 1))
  rw [if_neg (by simp : ¬ (0 : Nat) ≠ 0)]
  simp only [rsC] at h3 h2 T1 l2' s2 ⊢
  rw [hat2] at h3
  rw [hat2]
  rw [← ha1] at h2 T1 l2' s2
  obtain ⟨y, hy, by'⟩ := h3.rd.bs.part3 at1 at2 (by omega) (by omega)
  have hdt : (b.take at2).drop at1 = l2.take n := by
    obtain ⟨pre, hpre⟩ := h2.suf
    have : pre.length = at1 := by rw [ha1, ← hpre]; simp
    rw [← hpre, ha2, ← this, List.take_length_add_append, List.drop_left]
  rw [hdt] at by'
  have hts := toStr_bs by'
  have l3 : ∀ off, (H.put p (rdC x at2 0)).load ⟨p, off, none⟩ = [x, .int .i64 (at2 : Int), .int .i64 0][off]? := fun off => by
    have := load_at (off := off) h3.rd.hp h3.rd.bp
    rw [hat2] at this
    exact this
  obtain ⟨G, hG⟩ : ∃ G, G = H.put p (rdC x at1 0) := ⟨_, rfl⟩
  have hG3 : H.put p (rdC x at2 0) = G.put p [x, .int .i64 (at2 : Int), .int .i64 0] := by rw [hG, hp]; rfl
  obtain ⟨G3, hG3'⟩ : ∃ G3, G3 = H.put p (rdC x at2 0) := ⟨_, rfl⟩
  rw [← hG3'] at l3 hts hG3
  rw [← hG] at T1 l2' s2
  obtain ⟨z, hz⟩ : ∃ z, z = strB (l2.take n) := ⟨_, rfl⟩
  rw [← hz] at hts
  rw [← hG3', ← hz]
  simp [L98]
  refine goT_of T1 ?_
  simp [l2', s2, e1]
  rw [← hG3]
  simp [l3, e2, hy, hts]
end Go.Proofs.YtnomffikflfilaaGreat.E8
namespace Go.Proofs.YtnomffikflfilaaGreat.E8
open I8
open Go.Ot Go.RowKit
set_option linter.unusedSimpArgs false
set_option linter.unusedVariables false
set_option maxRecDepth 100000
def rdP (M : Nat) (l : List Nat) (f : Nat) : Nat × List Nat × Nat := (min (uS l f).1 M, (uS l f).2)
abbrev St := In × List Nat × Nat
def stU (M : Nat) (has : Bool) (set : In → Int → In) (s : St) : St := if has then (set s.1 (rdP M s.2.1 s.2.2).1, (rdP M s.2.1 s.2.2).2) else s
def stK (has : Bool) (s : St) : St := if has then ({ s.1 with k := (iS s.2.1 s.2.2).1 }, (iS s.2.1 s.2.2).2) else s
def setOp (x : In) (v : Int) : In := { x with op := v }
def setA (x : In) (v : Int) : In := { x with a := v }
def setB (x : In) (v : Int) : In := { x with b := v }
def setC (x : In) (v : Int) : In := { x with c := v }
def it3 (M : Nat) (h : Sh) : Nat → St → St
  | 0, s => s
  | 1, s => stU M h.a setA s
  | 2, s => stU M h.b setB (stU M h.a setA s)
  | _, s => stU M (h.c || h.cell) setC (stU M h.b setB (stU M h.a setA s))
def partsS (M : Nat) (h : Sh) (s : St) : St := stK h.k (it3 M h 3 (stU M (h.one || h.two) setOp s))
def newI (k : Int) : In := ⟨k, 0, 0, 0, 0, 0⟩
def loopS (M : Nat) : Nat → List Nat → Nat → List In → Nat × List In × List Nat × Nat
  | 0, l, f, acc => (0, acc, l, f)
  | n + 1, l, f, acc =>
    if (rdP M l f).2.2 ≠ 0 then ((rdP M l f).2.2, [], l, f)
    else if valid (rdP M l f).1 = false then (21, [], l, f)
    else loopS M n (partsS M (shp (rdP M l f).1) (newI (rdP M l f).1, (rdP M l f).2)).2.1 (partsS M (shp (rdP M l f).1) (newI (rdP M l f).1, (rdP M l f).2)).2.2
      (acc ++ [(partsS M (shp (rdP M l f).1) (newI (rdP M l f).1, (rdP M l f).2)).1])
def endS (cells : Int) (r : Nat × List In × List Nat × Nat) : List In × Int :=
  if r.1 ≠ 0 then ([], r.1) else if endN r.2.2.1 r.2.2.2 ≠ 0 then ([], endN r.2.2.1 r.2.2.2) else if (checkV r.2.1 cells).2 ≠ 0 then ([], (checkV r.2.1 cells).2) else (r.2.1, 0)
def decS (M : Nat) (b : List Nat) (cells : Int) : List In × Int :=
  endS cells (loopS M (countS b 0 1).1 (countS b 0 1).2.1 (countS b 0 1).2.2 [])
theorem rdP_suf (M : Nat) (l : List Nat) (f : Nat) : (rdP M l f).2.1 <:+ l := uS_suf l f
theorem stU_suf (M : Nat) (has : Bool) (set : In → Int → In) (s : St) : (stU M has set s).2.1 <:+ s.2.1 := by
  unfold stU; split
  · exact rdP_suf M _ _
  · exact List.suffix_refl _
theorem stK_suf (has : Bool) (s : St) : (stK has s).2.1 <:+ s.2.1 := by
  unfold stK; split
  · exact uS_suf _ _
  · exact List.suffix_refl _
theorem rsmall_T {H : Heap} {p : Nat} {x : Value} {b l : List Nat} {f : Nat} (h : RS H p x b l f) :
    T Tryz.prog 124 [ptr p] H (iv (rdP 256 l f).1) (H.put p (rsC x b (rdP 256 l f).2.1 (rdP 256 l f).2.2)) := by
  refine T_eq hm light124 ?_
  have T1 := ruint_T h
  unfold rdP
  obtain ⟨u, hu⟩ : ∃ u, u = (uS l f).1 := ⟨_, rfl⟩
  rw [← hu] at T1 ⊢
  simp only
  obtain ⟨G, hG⟩ : ∃ G, G = H.put p (rsC x b (uS l f).2.1 (uS l f).2.2) := ⟨_, rfl⟩
  rw [← hG] at T1 ⊢
  obtain ⟨m, hm'⟩ : ∃ m, m = min u 256 := ⟨_, rfl⟩
  have e1 : (if 256 < u then (256 : Int) else (u : Int)) = (m : Int) := by split <;> omega
  have e2 : IntKind.i64.wrap (m : Int) = (m : Int) := w64 _ (by omega)
  rw [← hm']
  simp [L124]
  refine goT_of T1 ?_
  simp [e1, e2]
structure Rn (H G : Heap) (p : Nat) (x : Value) (b l : List Nat) (f : Nat) : Prop where
  rs : RS G p x b l f
  wf0 : H.WF
  wf : G.WF
  base : G.base = H.base
  next : H.next ≤ G.next
  same : Same H G [p]
  hp : p < H.next
  xl : ∀ c, blkOf x = some c → c < H.next
theorem Rn.refl {H : Heap} (hw : H.WF) {p : Nat} {x : Value} {b l : List Nat} {f : Nat} (h : RS H p x b l f) (hxl : ∀ c, blkOf x = some c → c < H.next) : Rn H H p x b l f :=
  ⟨h, hw, hw, rfl, Nat.le_refl _, Same.refl _ _, hw.lt h.rd.bp, hxl⟩
theorem Rn.step {H G : Heap} {p : Nat} {x : Value} {b l : List Nat} {f : Nat} (h : Rn H G p x b l f) {l2 : List Nat} (f2 : Nat) (hs : l2 <:+ l) : Rn H (G.put p (rsC x b l2 f2)) p x b l2 f2 :=
  ⟨h.rs.step f2 hs, h.wf0, WF_put h.wf _ _, by simpa using h.base, by simpa using h.next, fun c hc hn => by
    have : c ≠ p := by simpa using hn
    simp [this, h.same c hc hn], h.hp, h.xl⟩
theorem Rn.new {H G : Heap} {p : Nat} {x : Value} {b l : List Nat} {f : Nat} (h : Rn H G p x b l f) (ty sz : Nat) (cs : List Value) : Rn H (G.new ty sz cs) p x b l f := by
  have hn := h.next
  have hp := h.hp
  refine ⟨h.rs.frame rfl (by simp [show p ≠ G.next by omega]) (fun c hc => by have := h.xl c hc; simp [show c ≠ G.next by omega]), h.wf0, WF_new h.wf _ _ _, h.base, by simp; omega, fun c hc hn2 => ?_, hp, h.xl⟩
  simp [show c ≠ G.next by omega]
  exact h.same c hc hn2
theorem Rn.put {H G : Heap} {p : Nat} {x : Value} {b l : List Nat} {f : Nat} (h : Rn H G p x b l f) {q : Nat} (hq : H.next ≤ q) (cs : List Value) : Rn H (G.put q cs) p x b l f := by
  have hp := h.hp
  refine ⟨h.rs.frame (by simp) (by simp [show p ≠ q by omega]) (fun c hc => by have := h.xl c hc; simp [show c ≠ q by omega]), h.wf0, WF_put h.wf _ _, by simpa using h.base, by simpa using h.next, fun c hc hn2 => ?_, hp, h.xl⟩
  simp [show c ≠ q by omega]
  exact h.same c hc hn2
theorem Rn.call {H G G' : Heap} {p : Nat} {x : Value} {b l : List Nat} {f : Nat} (h : Rn H G p x b l f) {g : FuncId} {args : List Value} {v : Value} (hT : T Tryz.prog g args G v G') (hs : Same G G' []) : Rn H G' p x b l f := by
  have hn := h.next
  have hp := h.hp
  exact ⟨h.rs.frame hT.1 (hs p (by omega) (by simp)) (fun c hc => hs c (by have := h.xl c hc; omega) (by simp)), h.wf0, hT.grow.wf h.wf, hT.1.trans h.base, Nat.le_trans hn hT.grow.next, fun c hc hn2 => (hs c (by omega) (by simp)).trans (h.same c hc hn2), hp, h.xl⟩
end Go.Proofs.YtnomffikflfilaaGreat.E8
namespace Go.Proofs.YtnomffikflfilaaGreat.E8
open I8
open Go.Ot Go.RowKit
set_option linter.unusedSimpArgs false
set_option linter.unusedVariables false
set_option maxRecDepth 100000
structure Kq (t t' : Tm) : Prop where
  k0 : t' 0 = t 0
  k1 : t' 1 = t 1
  k6 : t' 6 = t 6
  k8 : t' 8 = t 8
  k9 : t' 9 = t 9
  k10 : t' 10 = t 10
  k22 : t' 22 = t 22
  k23 : t' 23 = t 23
theorem Kq.refl (t : Tm) : Kq t t := ⟨rfl, rfl, rfl, rfl, rfl, rfl, rfl, rfl⟩
theorem Kq.trans {t t1 t2 : Tm} (h : Kq t t1) (g : Kq t1 t2) : Kq t t2 := ⟨g.k0.trans h.k0, g.k1.trans h.k1, g.k6.trans h.k6, g.k8.trans h.k8, g.k9.trans h.k9, g.k10.trans h.k10, g.k22.trans h.k22, g.k23.trans h.k23⟩
theorem Kq.put {t t' : Tm} (h : Kq t t') (d : Nat) (v : Value) (hd : d ≠ 0 ∧ d ≠ 1 ∧ d ≠ 6 ∧ d ≠ 8 ∧ d ≠ 9 ∧ d ≠ 10 ∧ d ≠ 22 ∧ d ≠ 23) : Kq t (Go.Ot.put t' (some d) v) := by
  obtain ⟨d0, d1, d6, d8, d9, d10, d22, d23⟩ := hd
  exact ⟨by simp [h.k0, d0.symm], by simp [h.k1, d1.symm], by simp [h.k6, d6.symm], by simp [h.k8, d8.symm], by simp [h.k9, d9.symm], by simp [h.k10, d10.symm], by simp [h.k22, d22.symm], by simp [h.k23, d23.symm]⟩
structure Ow (G G' : Heap) (p px : Nat) : Prop where
  base : G'.base = G.base
  next : G.next ≤ G'.next
  old : ∀ q, q < G.next → q ≠ p → q ≠ px → G'.blk q = G.blk q
theorem Ow.refl (G : Heap) (p px : Nat) : Ow G G p px := ⟨rfl, Nat.le_refl _, fun _ _ _ _ => rfl⟩
theorem Ow.trans {G G1 G2 : Heap} {p px : Nat} (h : Ow G G1 p px) (g : Ow G1 G2 p px) : Ow G G2 p px :=
  ⟨g.base.trans h.base, Nat.le_trans h.next g.next, fun q h1 h2 h3 => (g.old q (Nat.lt_of_lt_of_le h1 h.next) h2 h3).trans (h.old q h1 h2 h3)⟩
theorem Ow.vr {G G' : Heap} {p px : Nat} (h : Ow G G' p px) (hw : G.WF) {q ty n : Nat} {cs : List Value} (v : Vr G q ty n cs) (h1 : q ≠ p) (h2 : q ≠ px) : Vr G' q ty n cs := v.keep h.base (h.old q (hw.lt v.bq) h1 h2)
theorem it_w {H G : Heap} {p px pt : Nat} {xr : Value} {b : List Nat} {s : St} {has : Bool} {set : In → Int → In} {j : Nat} {cs : List Value} (hj : j < 3) (hset : ∀ x v, rowI (set x v) = (rowI x).set (2 + j) (iv v))
    (R : Rn H G p xr b s.2.1 s.2.2) (hpx : H.next ≤ px) (V : Vr G px 113 6 (rowI s.1)) (W : Vr G pt 237 2 cs) (hlt : pt ≠ p) (hld : G.loadN ⟨pt, j * 2, none⟩ 0 2 = some [.bool has, .pointer (some ⟨px, 2 + j, none⟩)])
    {t : Tm} (t6 : t 6 = ptr p) (t66 : t 66 = sl pt 3) (t67 : t 67 = iv 3) (t68 : t 68 = iv (j : Nat)) {Q : Post}
    (hQ : ∀ (t' : Tm) (G' : Heap), Kq t t' → t' 66 = sl pt 3 → t' 67 = iv 3 → t' 68 = iv ((j + 1 : Nat) : Int) → Rn H G' p xr b (stU 256 has set s).2.1 (stU 256 has set s).2.2 → Vr G' px 113 6 (rowI (stU 256 has set s).1) → Ow G G' p px → Q .normal t' (rdy G')) : wpA Tryz.prog L99_1 Q t (rdy G) := by
  obtain ⟨x, l, f⟩ := s
  simp only at R V hQ
  have e1 : IntKind.i64.wrap ((j : Int) + 1) = ((j + 1 : Nat) : Int) := by rw [w64 _ (by omega)]; omega
  obtain ⟨j1, hj1⟩ : ∃ j1, j1 = j + 1 := ⟨_, rfl⟩
  rw [← hj1] at e1 hQ
  have hj3 : (j : Int) < 3 := by omega
  have hwG := R.wf
  have hpn := hwG.lt V.bq
  have hpp : p ≠ px := by have := R.hp; omega
  have st := new_storeA hwG 237 2 [.bool false, .pointer none] [.bool has, .pointer (some ⟨px, 2 + j, none⟩)] rfl rfl (by decide)
  obtain ⟨G1, hG1⟩ : ∃ G1, G1 = G.new 237 2 [.bool has, .pointer (some ⟨px, 2 + j, none⟩)] := ⟨_, rfl⟩
  have R1 : Rn H G1 p xr b l f := by rw [hG1]; exact R.new _ _ _
  have V1 : Vr G1 px 113 6 (rowI x) := by rw [hG1]; exact V.new hwG _ _ _
  have U1 : Vr G1 G.next 237 2 [.bool has, .pointer (some ⟨px, 2 + j, none⟩)] := by rw [hG1]; exact Vr.mk' hwG _ _ _
  have O1 : Ow G G1 p px := ⟨by rw [hG1]; rfl, by rw [hG1]; simp, fun q h1 _ _ => by rw [hG1]; simp [show q ≠ G.next by omega]⟩
  rw [← hG1] at st
  have lu := U1.load
  have lu0 : G1.load ⟨G.next, 0, none⟩ = some (.bool has) := lu 0
  have lu1 : G1.load ⟨G.next, 1, none⟩ = some (.pointer (some ⟨px, 2 + j, none⟩)) := lu 1
  have hjl : j < 3 := hj
  cases has with
  | false =>
    simp [L99_1, t66, t67, t68, hj3, hj, hld, st, lu0, e1]
    refine hQ _ G1 ?_ (by simp [t66]) (by simp [t67]) (by simp) R1 V1 O1
    repeat (refine Kq.put ?_ _ _ (by decide))
    exact Kq.refl t
  | true =>
    have T2 := rsmall_T R1.rs
    have hpU : G.next ≠ p := by have := R.hp; have := R.next; omega
    have R2 := R1.step (rdP 256 l f).2.2 (rdP_suf 256 l f)
    have V2 := V1.beside hpp.symm (rsC xr b (rdP 256 l f).2.1 (rdP 256 l f).2.2)
    have U2 := U1.beside hpU (rsC xr b (rdP 256 l f).2.1 (rdP 256 l f).2.2)
    have lu2 : (G1.put p (rsC xr b (rdP 256 l f).2.1 (rdP 256 l f).2.2)).load ⟨G.next, 1, none⟩ = some (.pointer (some ⟨px, 2 + j, none⟩)) := U2.load 1
    have st3 := V2.store (2 + j) (iv ((rdP 256 l f).1 : Int)) (by simp [rowI]; omega)
    have O2 : Ow G1 (G1.put p (rsC xr b (rdP 256 l f).2.1 (rdP 256 l f).2.2)) p px := ⟨by simp, by simp, fun q _ h2 _ => by simp [h2]⟩
    have hst : stU 256 true set (x, l, f) = (set x ((rdP 256 l f).1 : Int), (rdP 256 l f).2) := rfl
    rw [hst] at hQ
    obtain ⟨v, hv⟩ : ∃ v : Int, v = ((rdP 256 l f).1 : Int) := ⟨_, rfl⟩
    rw [← hv] at T2 st3 hQ
    simp only at hQ
    obtain ⟨G2, hG2⟩ : ∃ G2, G2 = G1.put p (rsC xr b (rdP 256 l f).2.1 (rdP 256 l f).2.2) := ⟨_, rfl⟩
    rw [← hG2] at T2 R2 V2 U2 lu2 st3 O2
    have R3 := R2.put hpx ((rowI x).set (2 + j) (iv v))
    have V3 := V2.put ((rowI x).set (2 + j) (iv v))
    rw [← hset] at R3 V3 st3
    have O3 : Ow G2 (G2.put px (rowI (set x v))) p px := ⟨by simp, by simp, fun q _ _ h3 => by simp [h3]⟩
    simp [L99_1, t66, t67, t68, hj3, hj, hld, st, lu0, lu1]
    refine goT_of (by rw [t6]; exact T2) ?_
    simp [lu2, st3, t68, e1]
    refine hQ _ (G2.put px (rowI (set x v))) ?_ (by simp [t66]) (by simp [t67]) (by simp) R3 V3 (O1.trans (O2.trans O3))
    repeat (refine Kq.put ?_ _ _ (by decide))
    exact Kq.refl t
def tabC (h : Sh) (px : Nat) : List Value := [.bool h.a, .pointer (some ⟨px, 2, none⟩), .bool h.b, .pointer (some ⟨px, 3, none⟩), .bool (h.c || h.cell), .pointer (some ⟨px, 4, none⟩)]
def InvIt (H G : Heap) (p px pt : Nat) (xr : Value) (b : List Nat) (h : Sh) (s0 : St) (t0 : Tm) (k : Nat) (t : Tm) (G1 : Heap) : Prop :=
  ∃ (j : Nat) (s : St), j + k = 3 ∧ s = it3 256 h j s0 ∧ Rn H G1 p xr b s.2.1 s.2.2 ∧ Vr G1 px 113 6 (rowI s.1) ∧ Ow G G1 p px ∧ Kq t0 t ∧ t 66 = sl pt 3 ∧ t 67 = iv 3 ∧ t 68 = iv (j : Nat)
theorem its_w {H G : Heap} {p px pt : Nat} {xr : Value} {b : List Nat} {s0 : St} {h : Sh} (R : Rn H G p xr b s0.2.1 s0.2.2) (hpx : H.next ≤ px) (V : Vr G px 113 6 (rowI s0.1)) (W : Vr G pt 237 2 (tabC h px)) (hlt : pt ≠ p) (hlx : pt ≠ px)
    {t : Tm} (t6 : t 6 = ptr p) (t66 : t 66 = sl pt 3) (t67 : t 67 = iv 3) (t68 : t 68 = iv 0) {Q : Post}
    (hQ : ∀ (t' : Tm) (G' : Heap), Kq t t' → Rn H G' p xr b (it3 256 h 3 s0).2.1 (it3 256 h 3 s0).2.2 → Vr G' px 113 6 (rowI (it3 256 h 3 s0).1) → Ow G G' p px → Q (.exit 2) t' (rdy G')) : wpA Tryz.prog (.loop L99_1) Q t (rdy G) := by
  refine loop_at (InvIt H G p px pt xr b h s0 t) 3 ?_ ?_
  · exact ⟨0, s0, rfl, rfl, R, V, Ow.refl _ _ _, Kq.refl t, t66, t67, t68⟩
  · rintro k t1 G1 ⟨j, s, hjk, hs, R1, V1, O1, K1, u66, u67, u68⟩
    have hwG := R.wf
    have W1 := O1.vr hwG W hlt hlx
    cases k with
    | zero =>
      have ej : j = 3 := by omega
      subst ej
      subst hs
      simp [L99_1, u67, u68]
      exact hQ _ G1 (K1.put _ _ (by decide)) R1 V1 O1
    | succ k =>
      have ld : ∀ i, i < 3 → G1.loadN ⟨pt, i * 2, none⟩ 0 2 = some (((tabC h px).drop (i * 2)).take 2) := fun i hi => by
        rw [loadN_at W1.hq W1.bq (by simp [tabC]; omega)]
        simp
      have fin : ∀ (has : Bool) (set : In → Int → In), stU 256 has set s = it3 256 h (j + 1) s0 → (∀ x v, rowI (set x v) = (rowI x).set (2 + j) (iv v)) → ((tabC h px).drop (j * 2)).take 2 = [.bool has, .pointer (some ⟨px, 2 + j, none⟩)] → j < 3 →
          wpA Tryz.prog L99_1 (thenA (fun t' H' => ∃ m, m < k + 1 ∧ InvIt H G p px pt xr b h s0 t m t' H') Q) t1 (rdy G1) := by
        intro has set h1 h2 h3 hj
        refine it_w (set := set) hj h2 R1 hpx V1 W1 hlt (by rw [ld j hj, h3]) (by rw [K1.k6]; exact t6) u66 u67 u68 (fun t' G' K2 g66 g67 g68 R2 V2 O2 => ?_)
        rw [thenA_normal]
        exact ⟨k, Nat.lt_succ_self k, j + 1, _, by omega, h1, R2, V2, O1.trans O2, K1.trans K2, g66, g67, g68⟩
      have hj : j = 0 ∨ j = 1 ∨ j = 2 := by omega
      rcases hj with rfl | rfl | rfl
      · exact fin h.a setA (by rw [hs]; rfl) (fun _ _ => rfl) rfl (by omega)
      · exact fin h.b setB (by rw [hs]; rfl) (fun _ _ => rfl) rfl (by omega)
      · exact fin (h.c || h.cell) setC (by rw [hs]; rfl) (fun _ _ => rfl) rfl (by omega)
def A22 (i : Nat) : LCode := match L99_2 with
  | .seq a (.seq b (.seq (.block _ (.seq c1 (.seq c2 (.seq c3 (.seq c4 (.seq c5 (.seq c6 (.seq c7 c8)))))))) d)) =>
    match i with | 0 => a | 1 => b | 2 => c1 | 3 => c2 | 4 => c3 | 5 => c4 | 6 => c5 | 7 => c6 | 8 => c7 | 9 => c8 | _ => d
  | _ => .skip
theorem L99_2_eq : L99_2 = .seq (A22 0) (.seq (A22 1) (.seq (.block 1 (.seq (A22 2) (.seq (A22 3) (.seq (A22 4) (.seq (A22 5) (.seq (A22 6) (.seq (A22 7) (.seq (A22 8) (A22 9))))))))) (A22 10))) := rfl
theorem tab_w {H G : Heap} {p px ps : Nat} {xr : Value} {b : List Nat} {s0 : St} {h : Sh} (R : Rn H G p xr b s0.2.1 s0.2.2) (hpx : H.next ≤ px) (V : Vr G px 113 6 (rowI s0.1)) (S : Vr G ps 219 8 (rowS h))
    {t : Tm} (t6 : t 6 = ptr p) (t9 : t 9 = ptr px) (t10 : t 10 = ptr ps) {Q : Post}
    (hQ : ∀ (t' : Tm) (G' : Heap), Kq t t' → Rn H G' p xr b (it3 256 h 3 s0).2.1 (it3 256 h 3 s0).2.2 → Vr G' px 113 6 (rowI (it3 256 h 3 s0).1) → Ow G G' p px → Q .normal t' (rdy G')) : wpA Tryz.prog (A22 7) Q t (rdy G) := by
  have ls := S.load
  simp only [rowS] at ls
  have hwG := R.wf
  have hpn := hwG.lt V.bq
  have hpp := R.hp
  have hnn := R.next
  have z6 : zerosA [.bool false, .pointer none] 6 = [.bool false, .pointer none, .bool false, .pointer none, .bool false, .pointer none] := rfl
  have fin : ∀ (t1 : Tm), Kq t t1 → t1 66 = sl G.next 3 → t1 67 = iv 3 → t1 68 = iv 0 → wpA Tryz.prog (.loop L99_1) (blockA 2 Q) t1 (rdy (G.new 237 2 (tabC h px))) := by
    intro t1 K1 u66 u67 u68
    refine its_w (R.new _ _ _) hpx (V.new hwG _ _ _) (Vr.mk' hwG _ _ _) (by omega) (by omega) (by rw [K1.k6]; exact t6) u66 u67 u68 (fun t' G' K2 R2 V2 O2 => ?_)
    simp
    exact hQ t' G' (K1.trans K2) R2 V2 ((⟨rfl, by simp, fun q h1 _ _ => by simp [show q ≠ G.next by omega]⟩ : Ow G (G.new 237 2 (tabC h px)) p px).trans O2)
  cases hc : h.c with
  | false =>
    have e : tabC h px = [.bool h.a, .pointer (some ⟨px, 2, none⟩), .bool h.b, .pointer (some ⟨px, 3, none⟩), .bool h.cell, .pointer (some ⟨px, 4, none⟩)] := by simp [tabC, hc]
    rw [e] at fin
    simp [A22, L99_2, t9, t10, ls, hc, z6]
    refine fin _ ?_ (by simp) (by simp) (by simp)
    repeat (refine Kq.put ?_ _ _ (by decide))
    exact Kq.refl t
  | true =>
    have e : tabC h px = [.bool h.a, .pointer (some ⟨px, 2, none⟩), .bool h.b, .pointer (some ⟨px, 3, none⟩), .bool true, .pointer (some ⟨px, 4, none⟩)] := by simp [tabC, hc]
    rw [e] at fin
    simp [A22, L99_2, t9, t10, ls, hc, z6]
    refine fin _ ?_ (by simp) (by simp) (by simp)
    repeat (refine Kq.put ?_ _ _ (by decide))
    exact Kq.refl t
end Go.Proofs.YtnomffikflfilaaGreat.E8
namespace Go.Proofs.YtnomffikflfilaaGreat.E8
open I8
open Go.Ot Go.RowKit
set_option linter.unusedSimpArgs false
set_option linter.unusedVariables false
set_option maxRecDepth 100000
theorem rows_push {H G : Heap} {p : Nat} {xr : Value} {b l : List Nat} {f : Nat} (R : Rn H G p xr b l f) {n : Nat} {cells : List Value} {y : Value} (own : Own G 113 6 n cells y) (yn : ∀ c, blkOf y = some c → H.next ≤ c) (row : List Value) (hr : row.length = 6) (hb : (n + 1) * 48 ≤ 140737488355328) :
    ∃ a GA, sAppend (G.new 113 6 row) 113 6 48 y (.slice (some ⟨G.next, 0, none⟩) 1 0) = some (.slice (some a) (n + 1) 0, GA) ∧ Rn H GA p xr b l f ∧ Own GA 113 6 (n + 1) (cells ++ row) (.slice (some a) (n + 1) 0) ∧ (∀ c, blkOf (.slice (some a) (n + 1) 0) = some c → H.next ≤ c) := by
  have hw := R.wf
  have hnB := hw.next_ge
  have hn := R.next
  have hpp := R.hp
  have hsrc : srcCells (G.new 113 6 row) 6 (.slice (some ⟨G.next, 0, none⟩) 1 0) = some (1, row) := by
    rw [src_at (ety := 113) (cs := row) (by simpa using hnB) (by simp) (by omega)]
    simp [List.take_of_length_le, hr]
  have hap := append_any (bytes := 48) (own.new hw 113 6 row) hsrc (by omega) hb
  have hyp : blkOf y ≠ some p := fun e => by have := yn _ e; omega
  have keep : ∀ c, c < H.next → (((G.new 113 6 row).drop y).new 113 6 (cells ++ row)).blk c = G.blk c := fun c hc => by
    have hy : blkOf y ≠ some c := fun e => by have := yn _ e; omega
    simp [show c ≠ G.next by omega, show c ≠ G.next + 1 by omega, blk_drop, hy]
  refine ⟨_, _, hap, ⟨R.rs.frame (by simp) (keep p hpp) (fun c hc => keep c (R.xl c hc)), R.wf0, WF_new (WF_drop (WF_new hw _ _ _) _) _ _ _, by simpa using R.base, by simp; omega, fun c hc hne => (keep c hc).trans (R.same c hc hne), hpp, R.xl⟩, ?_, ?_⟩
  · refine Own.mk (by simp [own.1, hr, Nat.add_mul]) (by simp; omega) ?_
    simp
  · intro c hc
    simp at hc; omega
theorem op_w {H G : Heap} {p px ps : Nat} {xr : Value} {b : List Nat} {s0 : St} {h : Sh} (R : Rn H G p xr b s0.2.1 s0.2.2) (hpx : H.next ≤ px) (V : Vr G px 113 6 (rowI s0.1)) (S : Vr G ps 219 8 (rowS h))
    {t : Tm} (t6 : t 6 = ptr p) (t9 : t 9 = ptr px) (t10 : t 10 = ptr ps) {Q : Post}
    (hQ : ∀ (t' : Tm) (G' : Heap), Kq t t' → Rn H G' p xr b (stU 256 (h.one || h.two) setOp s0).2.1 (stU 256 (h.one || h.two) setOp s0).2.2 → Vr G' px 113 6 (rowI (stU 256 (h.one || h.two) setOp s0).1) → Ow G G' p px → Q .normal t' (rdy G')) : wpA Tryz.prog (A22 6) Q t (rdy G) := by
  have ls := S.load
  simp only [rowS] at ls
  obtain ⟨x, l, f⟩ := s0
  simp only at R V hQ
  have hpp : p ≠ px := by have := R.hp; omega
  have T2 := rsmall_T R.rs
  have R2 := R.step (rdP 256 l f).2.2 (rdP_suf 256 l f)
  have V2 := V.beside hpp.symm (rsC xr b (rdP 256 l f).2.1 (rdP 256 l f).2.2)
  have O2 : Ow G (G.put p (rsC xr b (rdP 256 l f).2.1 (rdP 256 l f).2.2)) p px := ⟨by simp, by simp, fun q _ h2 _ => by simp [h2]⟩
  have st3 := V2.store 1 (iv ((rdP 256 l f).1 : Int)) (by simp [rowI])
  have hst : stU 256 true setOp (x, l, f) = (setOp x ((rdP 256 l f).1 : Int), (rdP 256 l f).2) := rfl
  obtain ⟨v, hv⟩ : ∃ v : Int, v = ((rdP 256 l f).1 : Int) := ⟨_, rfl⟩
  rw [← hv] at T2 st3 hst
  obtain ⟨G2, hG2⟩ : ∃ G2, G2 = G.put p (rsC xr b (rdP 256 l f).2.1 (rdP 256 l f).2.2) := ⟨_, rfl⟩
  rw [← hG2] at T2 R2 V2 st3 O2
  have hset : (rowI x).set 1 (iv v) = rowI (setOp x v) := rfl
  rw [hset] at st3
  have R3 := R2.put hpx (rowI (setOp x v))
  have V3 := V2.put (rowI (setOp x v))
  have O3 : Ow G2 (G2.put px (rowI (setOp x v))) p px := ⟨by simp, by simp, fun q _ _ h3 => by simp [h3]⟩
  cases h1 : h.one with
  | true =>
    rw [h1, Bool.true_or, hst] at hQ
    simp [A22, L99_2, t10, ls, h1]
    refine goT_of (by rw [t6]; exact T2) ?_
    simp [t9, st3]
    refine hQ _ _ ?_ R3 V3 (O2.trans O3)
    repeat (refine Kq.put ?_ _ _ (by decide))
    exact Kq.refl t
  | false =>
    cases h2 : h.two with
    | true =>
      rw [h1, h2, Bool.false_or, hst] at hQ
      simp [A22, L99_2, t10, ls, h1, h2]
      refine goT_of (by rw [t6]; exact T2) ?_
      simp [t9, st3]
      refine hQ _ _ ?_ R3 V3 (O2.trans O3)
      repeat (refine Kq.put ?_ _ _ (by decide))
      exact Kq.refl t
    | false =>
      rw [h1, h2] at hQ
      simp [A22, L99_2, t10, ls, h1, h2]
      refine hQ _ G ?_ R V (Ow.refl _ _ _)
      repeat (refine Kq.put ?_ _ _ (by decide))
      exact Kq.refl t
theorem k_w {H G : Heap} {p px ps : Nat} {xr : Value} {b : List Nat} {s0 : St} {h : Sh} (R : Rn H G p xr b s0.2.1 s0.2.2) (hpx : H.next ≤ px) (V : Vr G px 113 6 (rowI s0.1)) (S : Vr G ps 219 8 (rowS h))
    {t : Tm} (t6 : t 6 = ptr p) (t9 : t 9 = ptr px) (t10 : t 10 = ptr ps) {Q : Post}
    (hQ : ∀ (t' : Tm) (G' : Heap), Kq t t' → Rn H G' p xr b (stK h.k s0).2.1 (stK h.k s0).2.2 → Vr G' px 113 6 (rowI (stK h.k s0).1) → Ow G G' p px → Q .normal t' (rdy G')) : wpA Tryz.prog (A22 8) Q t (rdy G) := by
  have ls := S.load
  simp only [rowS] at ls
  obtain ⟨x, l, f⟩ := s0
  simp only at R V hQ
  have hpp : p ≠ px := by have := R.hp; omega
  cases h1 : h.k with
  | false =>
    rw [h1] at hQ
    simp [A22, L99_2, t10, ls, h1]
    refine hQ _ G ?_ R V (Ow.refl _ _ _)
    repeat (refine Kq.put ?_ _ _ (by decide))
    exact Kq.refl t
  | true =>
    have T2 := rint_T R.rs
    have R2 := R.step (iS l f).2.2 (uS_suf l f)
    have V2 := V.beside hpp.symm (rsC xr b (iS l f).2.1 (iS l f).2.2)
    have O2 : Ow G (G.put p (rsC xr b (iS l f).2.1 (iS l f).2.2)) p px := ⟨by simp, by simp, fun q _ h2 _ => by simp [h2]⟩
    have st3 := V2.store 5 (iv (iS l f).1) (by simp [rowI])
    have hst : stK true (x, l, f) = ({ x with k := (iS l f).1 }, (iS l f).2) := rfl
    rw [h1, hst] at hQ
    obtain ⟨v, hv⟩ : ∃ v : Int, v = (iS l f).1 := ⟨_, rfl⟩
    rw [← hv] at T2 st3 hQ
    obtain ⟨G2, hG2⟩ : ∃ G2, G2 = G.put p (rsC xr b (iS l f).2.1 (iS l f).2.2) := ⟨_, rfl⟩
    rw [← hG2] at T2 V2 st3 O2
    have R2' : Rn H G2 p xr b (iS l f).2.1 (iS l f).2.2 := by rw [hG2]; exact R2
    have hset : (rowI x).set 5 (iv v) = rowI { x with k := v } := rfl
    rw [hset] at st3
    have R3 := R2'.put hpx (rowI { x with k := v })
    have V3 := V2.put (rowI { x with k := v })
    have O3 : Ow G2 (G2.put px (rowI { x with k := v })) p px := ⟨by simp, by simp, fun q _ _ h3 => by simp [h3]⟩
    simp [A22, L99_2, t10, ls, h1]
    refine goT_of (by rw [t6]; exact T2) ?_
    simp [t9, st3]
    refine hQ _ _ ?_ R3 V3 (O2.trans O3)
    repeat (refine Kq.put ?_ _ _ (by decide))
    exact Kq.refl t
theorem app_w {H G : Heap} {p px : Nat} {xr y : Value} {b l : List Nat} {f : Nat} {x : In} {acc : List In} (R : Rn H G p xr b l f) (V : Vr G px 113 6 (rowI x)) (own : Own G 113 6 acc.length (acc.map rowI).flatten y) (yn : ∀ c, blkOf y = some c → H.next ≤ c) (hl : acc.length ≤ 2000000)
    {t : Tm} (t8 : t 8 = y) (t9 : t 9 = ptr px) {Q : Post}
    (hQ : ∀ (t' : Tm) (G' : Heap) (y' : Value), t' 0 = t 0 → t' 1 = t 1 → t' 6 = t 6 → t' 8 = y' → t' 22 = t 22 → t' 23 = t 23 → Rn H G' p xr b l f → Own G' 113 6 (acc ++ [x]).length ((acc ++ [x]).map rowI).flatten y' → (∀ c, blkOf y' = some c → H.next ≤ c) → Q .normal t' (rdy G')) : wpA Tryz.prog (A22 9) Q t (rdy G) := by
  have la := V.loadA (m := 6) rfl
  obtain ⟨a, GA, ap, RA, oA, nA⟩ := rows_push R own yn (rowI x) rfl (by omega)
  have z6 : zerosA [.int .i64 0, .int .i64 0, .int .i64 0, .int .i64 0, .int .i64 0, .int .i64 0] 6 = [.int .i64 0, .int .i64 0, .int .i64 0, .int .i64 0, .int .i64 0, .int .i64 0] := rfl
  have oA' : Own GA 113 6 (acc ++ [x]).length ((acc ++ [x]).map rowI).flatten (.slice (some a) (acc.length + 1) 0) := by simpa using oA
  simp only [rowI] at la ap
  simp [A22, L99_2, t8, t9, la, z6, ap]
  exact hQ _ GA (.slice (some a) (acc.length + 1) 0) (by simp) (by simp) (by simp) (by simp) (by simp) (by simp) RA oA' nA
end Go.Proofs.YtnomffikflfilaaGreat.E8
namespace Go.Proofs.YtnomffikflfilaaGreat.E8
open I8
open Go.Ot Go.RowKit
set_option linter.unusedSimpArgs false
set_option linter.unusedVariables false
set_option maxRecDepth 100000
theorem a22_0 : A22 0 = .region [⟨some 24, .bin .lss (.tmp 23) (.tmp 22), none⟩] := rfl
theorem a22_1 : A22 1 = .cond (.tmp 24) (.skip) (.exit 0) := rfl
theorem a22_2 : A22 2 = .region [⟨some 25, .move (.tmp 6), none⟩, ⟨some 26, .call 124 [.tmp 25], none⟩, ⟨some 27, .build [.int .i64 0, .int .i64 0, .int .i64 0, .int .i64 0, .int .i64 0, .int .i64 0] [(0, 1, .tmp 26)], none⟩, ⟨some 9, .new 113 6 [.int .i64 0, .int .i64 0, .int .i64 0, .int .i64 0, .int .i64 0, .int .i64 0], none⟩, ⟨none, .store 6 (.tmp 9) (.tmp 27), none⟩] := rfl
theorem a22_3 : A22 3 = .region [⟨some 29, .off 0 (.tmp 9), none⟩, ⟨some 30, .load false 1 (.tmp 29), none⟩, ⟨some 31, .call 114 [.tmp 30], none⟩, ⟨some 28, .move (.tmp 31), none⟩, ⟨some 32, .extract (.tmp 28) 0, none⟩, ⟨some 33, .extract (.tmp 28) 1, none⟩, ⟨some 10, .new 219 8 [.bool false, .bool false, .bool false, .bool false, .bool false, .bool false, .bool false, .bool false], none⟩, ⟨none, .store 8 (.tmp 10) (.tmp 32), none⟩, ⟨some 11, .move (.tmp 33), none⟩] := rfl
theorem a22_4 : A22 4 = .seq (.region [⟨some 34, .move (.tmp 6), none⟩, ⟨some 35, .call 51 [.tmp 34], none⟩, ⟨some 12, .move (.tmp 35), none⟩]) (.seq (.region [⟨some 36, .move (.tmp 12), none⟩, ⟨some 37, .bin .neq (.tmp 36) (.const (.int .i64 0)), none⟩]) (.cond (.tmp 37) (.seq (.region [⟨some 38, .move (.tmp 12), none⟩, ⟨some 4, .move (.const (.slice none 0 0)), none⟩, ⟨some 5, .move (.tmp 38), none⟩]) (.ret)) (.skip))) := rfl
theorem a22_5 : A22 5 = .seq (.region [⟨some 39, .move (.tmp 11), none⟩, ⟨some 40, .un .not (.tmp 39), none⟩]) (.cond (.tmp 40) (.seq (.region [⟨some 4, .move (.const (.slice none 0 0)), none⟩, ⟨some 5, .move (.const (.int .i64 21)), none⟩]) (.ret)) (.skip)) := rfl
theorem a22_10 : A22 10 = .region [⟨some 89, .bin .add (.tmp 23) (.const (.int .i64 1)), none⟩, ⟨some 23, .move (.tmp 89), none⟩] := rfl
def InvDc (H : Heap) (p : Nat) (xr : Value) (b : List Nat) (cells : Int) (n : Nat) (want : Nat × List In × List Nat × Nat) (k : Nat) (t : Tm) (G : Heap) : Prop :=
  ∃ (i : Nat) (l : List Nat) (f : Nat) (acc : List In) (y : Value), i + k = n ∧ acc.length = i ∧ t 1 = iv cells ∧ t 6 = ptr p ∧ t 8 = y ∧ t 22 = iv (n : Nat) ∧ t 23 = iv (i : Nat) ∧ Rn H G p xr b l f ∧
    Own G 113 6 acc.length (acc.map rowI).flatten y ∧ (∀ c, blkOf y = some c → H.next ≤ c) ∧ loopS 256 k l f acc = want
def DecQ (H : Heap) (r : List In × Int) (v : Value) (H' : Heap) : Prop := ∃ y, v = .tuple #[y, iv r.2] ∧ Rws H' 6 y (r.1.map rowI) ∧ Same H H' [] ∧ ∀ c, blkOf y = some c → H.next ≤ c ∧ c < H'.next
theorem round_w {H G : Heap} {p : Nat} {xr y : Value} {b l : List Nat} {f i n k : Nat} {cells : Int} {acc : List In} {want : Nat × List In × List Nat × Nat} (hin : i + (k + 1) = n) (hn : n ≤ 2000000) (hacc : acc.length = i) {t : Tm} (t1 : t 1 = iv cells) (t6 : t 6 = ptr p) (t8 : t 8 = y) (t22 : t 22 = iv (n : Nat)) (t23 : t 23 = iv (i : Nat))
    (R : Rn H G p xr b l f) (own : Own G 113 6 acc.length (acc.map rowI).flatten y) (yn : ∀ c, blkOf y = some c → H.next ≤ c) (hw : loopS 256 (k + 1) l f acc = want) {Q : Post} {K : Tm → Heap → Prop}
    (hR : ∀ (t' : Tm) (G' : Heap) (e : Nat), want = (e, [], l, f) → e ≠ 0 → G'.base = H.base → Same H G' [p] → t' 4 = .slice none 0 0 → t' 5 = iv (e : Int) → Q .ret t' (rdy G'))
    (hN : ∀ t' G', (∃ m, m < k + 1 ∧ InvDc H p xr b cells n want m t' G') → K t' (rdy G')) : wpA Tryz.prog L99_2 (thenA K Q) t (rdy G) := by
  have hwG := R.wf
  have hnH := R.next
  have hpp := R.hp
  have hi : (i : Int) < (n : Int) := by omega
  have hi' : i < n := by omega
  have T1 := rsmall_T R.rs
  have R1 := R.step (rdP 256 l f).2.2 (rdP_suf 256 l f)
  have O1 : ∀ q, q ≠ p → (G.put p (rsC xr b (rdP 256 l f).2.1 (rdP 256 l f).2.2)).blk q = G.blk q := fun q h => by simp [h]
  unfold loopS at hw
  obtain ⟨kk, hkk⟩ : ∃ kk, kk = (rdP 256 l f).1 := ⟨_, rfl⟩
  obtain ⟨l1, hl1⟩ : ∃ l1, l1 = (rdP 256 l f).2.1 := ⟨_, rfl⟩
  obtain ⟨f1, hf1⟩ : ∃ f1, f1 = (rdP 256 l f).2.2 := ⟨_, rfl⟩
  have hrd : rdP 256 l f = (kk, l1, f1) := by rw [hkk, hl1, hf1]
  rw [hrd] at T1 R1 O1 hw
  simp only at T1 R1 O1 hw
  obtain ⟨G1, hG1⟩ : ∃ G1, G1 = G.put p (rsC xr b l1 f1) := ⟨_, rfl⟩
  rw [← hG1] at T1 R1 O1
  have n1 : G1.next = G.next := by rw [hG1]; simp
  have st2 := new_storeA R1.wf 113 6 [.int .i64 0, .int .i64 0, .int .i64 0, .int .i64 0, .int .i64 0, .int .i64 0] (rowI (newI kk)) rfl rfl (by decide)
  obtain ⟨G2, hG2⟩ : ∃ G2, G2 = G1.new 113 6 (rowI (newI kk)) := ⟨_, rfl⟩
  have R2 : Rn H G2 p xr b l1 f1 := by rw [hG2]; exact R1.new _ _ _
  have V2 : Vr G2 G1.next 113 6 (rowI (newI kk)) := by rw [hG2]; exact Vr.mk' R1.wf _ _ _
  have n2 : G2.next = G.next + 1 := by rw [hG2]; simp [n1]
  have O2 : ∀ q, q < G.next → q ≠ p → G2.blk q = G.blk q := fun q h1 h2 => by rw [hG2]; simp [show q ≠ G1.next by omega]; exact O1 q h2
  rw [← hG2] at st2
  have lk2 : G2.load ⟨G1.next, 0, none⟩ = some (iv kk) := V2.load 0
  obtain ⟨v3, G3, T3, rfl, s3⟩ := shape_T R2.wf kk
  have R3 := R2.call T3 s3
  have n3 := T3.grow.next
  have V3 : Vr G3 G1.next 113 6 (rowI (newI kk)) := V2.keep T3.1 (s3 _ (by omega) (by simp))
  obtain ⟨sh, hsh⟩ : ∃ sh, sh = shp kk := ⟨_, rfl⟩
  obtain ⟨va, hva⟩ : ∃ va, va = valid kk := ⟨_, rfl⟩
  rw [← hsh, ← hva] at T3
  rw [← hsh, ← hva] at hw
  have st4 := new_storeA R3.wf 219 8 [.bool false, .bool false, .bool false, .bool false, .bool false, .bool false, .bool false, .bool false] (rowS sh) rfl rfl (by decide)
  obtain ⟨G4, hG4⟩ : ∃ G4, G4 = G3.new 219 8 (rowS sh) := ⟨_, rfl⟩
  have R4 : Rn H G4 p xr b l1 f1 := by rw [hG4]; exact R3.new _ _ _
  have V4 : Vr G4 G1.next 113 6 (rowI (newI kk)) := by rw [hG4]; exact V3.new R3.wf _ _ _
  have S4 : Vr G4 G3.next 219 8 (rowS sh) := by rw [hG4]; exact Vr.mk' R3.wf _ _ _
  rw [← hG4] at st4
  have O4 : ∀ q, q < G.next → q ≠ p → G4.blk q = G.blk q := fun q h1 h2 => by rw [hG4]; simp [show q ≠ G3.next by omega]; rw [s3 q (by omega) (by simp)]; exact O2 q h1 h2
  have T5 := fail_S R4.rs
  rw [L99_2_eq]
  simp [a22_0, a22_1, a22_2, a22_3, t22, t23, t6, hi']
  refine goT_of T1 ?_
  have st2' : sStore (G1.new 113 6 [.int .i64 0, .int .i64 0, .int .i64 0, .int .i64 0, .int .i64 0, .int .i64 0]) 6 (.pointer (some ⟨G1.next, 0, none⟩)) (.agg #[.int .i64 (kk : Int), .int .i64 0, .int .i64 0, .int .i64 0, .int .i64 0, .int .i64 0]) = some G2 := st2
  simp [st2', lk2]
  refine goT_of T3 ?_
  simp [st4]
  rw [a22_4]
  simp [t6]
  refine goT_of T5 ?_
  by_cases hf0 : f1 = 0
  case neg =>
    have hf0' : ((f1 : Int) != 0) = true := bne_iff_ne.2 (by omega)
    rw [if_pos hf0] at hw
    simp [hf0]
    exact hR _ G4 f1 hw.symm hf0 R4.base R4.same (by simp) (by simp)
  subst hf0
  rw [if_neg (by simp : ¬ (0 : Nat) ≠ 0)] at hw
  simp [a22_5]
  cases va with
  | false =>
    rw [if_pos rfl] at hw
    simp
    exact hR _ G4 21 hw.symm (by decide) R4.base R4.same (by simp) (by simp)
  | true =>
    rw [if_neg (by simp)] at hw
    simp
    have n4 : G3.next < G4.next := by rw [hG4]; simp
    have hs1 : G3.next ≠ p := by omega
    have hs2 : G3.next ≠ G1.next := by omega
    refine op_w (s0 := (newI kk, l1, 0)) R4 (by omega) V4 S4 (by simp [t6]) (by simp) (by simp) (fun ta Ga Ka Ra Va Oa => ?_)
    have Sa := Oa.vr R4.wf S4 hs1 hs2
    rw [thenA_normal, wpA_seq]
    refine tab_w Ra (by omega) Va Sa (by rw [Ka.k6]; simp [t6]) (by rw [Ka.k9]; simp) (by rw [Ka.k10]; simp) (fun tb Gb Kb Rb Vb Ob => ?_)
    have Sb := Ob.vr Ra.wf Sa hs1 hs2
    have Kb' := Ka.trans Kb
    rw [thenA_normal, wpA_seq]
    refine k_w Rb (by omega) Vb Sb (by rw [Kb'.k6]; simp [t6]) (by rw [Kb'.k9]; simp) (by rw [Kb'.k10]; simp) (fun tc Gc Kc Rc Vc Oc => ?_)
    have Kc' := Kb'.trans Kc
    have Oc' := (Oa.trans Ob).trans Oc
    rw [thenA_normal]
    have ownc : Own Gc 113 6 acc.length (acc.map rowI).flatten y := own.keep (B_eq (Oc'.base.trans (R4.base.trans R.base.symm))) (fun c hc => by
      have h1 := own.lt hwG hc
      have h2 := yn c hc
      rw [Oc'.old c (by omega) (by omega) (by omega)]
      exact O4 c h1 (by omega))
    have hps : partsS 256 sh (newI kk, l1, 0) = stK sh.k (it3 256 sh 3 (stU 256 (sh.one || sh.two) setOp (newI kk, l1, 0))) := rfl
    rw [hps] at hw
    obtain ⟨fs, hfs⟩ : ∃ fs, fs = stK sh.k (it3 256 sh 3 (stU 256 (sh.one || sh.two) setOp (newI kk, l1, 0))) := ⟨_, rfl⟩
    rw [← hfs] at hw Rc Vc
    refine app_w Rc Vc ownc yn (by omega) (by rw [Kc'.k8]; simp [t8]) (by rw [Kc'.k9]; simp) (fun td Gd yd d0 d1 d6 d8 d22 d23 Rd' ownd ynd => ?_)
    have e3 : IntKind.i64.wrap ((i : Int) + 1) = ((i + 1 : Nat) : Int) := by rw [w64 _ (by omega)]; omega
    obtain ⟨i1, hi1⟩ : ∃ i1, i1 = i + 1 := ⟨_, rfl⟩
    rw [← hi1] at e3
    have f23 : td 23 = iv (i : Nat) := by rw [d23, Kc'.k23]; simp [t23]
    simp [a22_10, f23, e3]
    refine hN _ _ ⟨k, Nat.lt_succ_self k, i1, fs.2.1, fs.2.2, acc ++ [fs.1], yd, by omega, by simp [hacc, hi1], ?_, ?_, ?_, ?_, by simp, Rd', ownd, ynd, hw⟩
    · simp [d1, Kc'.k1, t1]
    · simp [d6, Kc'.k6, t6]
    · simp [d8]
    · simp [d22, Kc'.k22, t22]
theorem rows_rws {H : Heap} {l : List In} {y : Value} (own : Own H 113 6 l.length (l.map rowI).flatten y) : Rws H 6 y (l.map rowI) := by
  refine Own.rws (ety := 113) (by intro r hr; obtain ⟨q, _, rfl⟩ := List.mem_map.1 hr; rfl) ?_
  simpa using own
theorem decode_T {H : Heap} (hw : H.WF) {x : Value} {b : List Nat} (hx : Bs H x b) (hlt : ∀ c ∈ b, c < 256) (hlen : b.length ≤ 2000000) (cells : Int) :
    ∃ v H', T Tryz.prog 99 [x, iv cells] H v H' ∧ DecQ H (decS 256 b cells) v H' := by
  refine T_by hm light99 ?_
  obtain ⟨v1, HB, T1, p, xr, rfl, hrd, hpn, wB, bB, sB, hxlt, hxge⟩ := read_T2 hw hx hlt (by omega)
  have rsB : RS HB p xr b b 0 := ⟨by simpa using hrd, List.suffix_refl _⟩
  have nB := T1.grow.next
  have T2 := rcount_T rsB 1 (by unfold okI2; omega)
  have RC := (Rn.refl wB rsB hxlt).step (countS b 0 1).2.2 (countS_suf b 0 1)
  have hsm : (countS b 0 1).1 ≤ b.length := by
    by_cases h : (countS b 0 1).2.2 = 0
    · exact Nat.le_trans (countS_le b 0 1 h) (countS_suf b 0 1).length_le
    · have : (countS b 0 1).1 = 0 := by
        unfold countS at h ⊢
        split
        · rfl
        · rename_i h1
          rw [if_neg h1] at h
          exact uS_fail b 0 h
      omega
  unfold decS
  obtain ⟨n, hn⟩ : ∃ n, n = (countS b 0 1).1 := ⟨_, rfl⟩
  obtain ⟨l1, hl1⟩ : ∃ l1, l1 = (countS b 0 1).2.1 := ⟨_, rfl⟩
  obtain ⟨f1, hf1⟩ : ∃ f1, f1 = (countS b 0 1).2.2 := ⟨_, rfl⟩
  rw [← hn, ← hl1, ← hf1] at T2 ⊢
  rw [← hl1, ← hf1] at RC
  rw [← hn] at hsm
  obtain ⟨want, hwant⟩ : ∃ want, want = loopS 256 n l1 f1 [] := ⟨_, rfl⟩
  rw [← hwant]
  obtain ⟨G0, hG0⟩ : ∃ G0, G0 = HB.put p (rsC xr b l1 f1) := ⟨_, rfl⟩
  rw [← hG0] at T2 RC
  have smH : ∀ G : Heap, Same HB G [p] → Same H G [] := fun G h c hc _ => (h c (by omega) (by simp; omega)).trans (sB c hc (by simp))
  obtain ⟨r, hr⟩ : ∃ r, r = endS cells want := ⟨_, rfl⟩
  rw [← hr]
  simp [L99]
  refine goT_of T1 ?_
  simp
  refine goT_of T2 ?_
  simp
  refine loop_at (InvDc HB p xr b cells n want) n ?_ ?_
  · exact ⟨0, l1, f1, [], .slice none 0 0, by omega, rfl, by simp, by simp, by simp, by simp, by simp, RC, by simpa using Own.nil G0 113 6, by simp, hwant.symm⟩
  · rintro k t G ⟨i, l, f, acc, y, hik, hacc, t1, t6, t8, t22, t23, R, own, yn, hw3⟩
    cases k with
    | succ k =>
      refine round_w hik (by omega) hacc t1 t6 t8 t22 t23 R own yn hw3 (fun t' G' e he h0 hb hsm' h4 h5 => ?_) (fun t' G' h => h)
      have hre : r = ([], (e : Int)) := by rw [hr, he]; unfold endS; rw [if_pos h0]
      subst hre
      simp [h4, h5, Go.Ot.packV]
      exact ⟨_, rfl, .inl ⟨rfl, rfl⟩, smH G' hsm', fun c hc => by cases hc⟩
    | zero =>
      have ei : i = n := by omega
      subst ei
      have hw4 : want = (0, acc, l, f) := hw3.symm
      have T3 := rend_T R.rs
      have hrw := rows_rws own
      obtain ⟨v4, G4, T4, rfl, s4⟩ := check_T R.wf hrw cells
      have hrw4 : Rws G4 6 y (acc.map rowI) := hrw.keep R.wf T4.1 (fun c hc => s4 c hc (by simp))
      obtain ⟨e1, he1⟩ : ∃ e1, e1 = endN l f := ⟨_, rfl⟩
      obtain ⟨e2, he2⟩ : ∃ e2, e2 = (checkV acc cells).2 := ⟨_, rfl⟩
      rw [← he1] at T3
      rw [← he2] at T4
      have hr2 : r = if e1 ≠ 0 then ([], (e1 : Int)) else if e2 ≠ 0 then ([], e2) else (acc, 0) := by
        rw [hr, hw4]
        unfold endS
        simp only
        rw [if_neg (by simp : ¬ (0 : Nat) ≠ 0), ← he1, ← he2]
      have hn4 := R.next
      have sm4 : Same H G4 [] := fun c hc hc2 => (s4 c (by omega) (by simp)).trans (smH G R.same c hc hc2)
      obtain ⟨ya, hya⟩ := own.len
      by_cases h1 : e1 = 0
      case neg =>
        rw [if_pos h1] at hr2
        subst hr2
        rw [L99_2_eq]
        simp [a22_0, a22_1, t22, t23, t6]
        refine goT_of T3 ?_
        simp [h1, Go.Ot.packV]
        exact ⟨_, rfl, .inl ⟨rfl, rfl⟩, smH G R.same, fun c hc => by cases hc⟩
      subst h1
      rw [if_neg (by simp : ¬ (0 : Nat) ≠ 0)] at hr2
      by_cases h2 : e2 = 0
      case neg =>
        have h2' : (e2 != 0) = true := by simp [h2]
        rw [if_pos h2] at hr2
        subst hr2
        rw [L99_2_eq]
        simp [a22_0, a22_1, t22, t23, t6]
        refine goT_of T3 ?_
        simp [t1, t8]
        refine goT_of T4 ?_
        simp [h2', Go.Ot.packV]
        exact ⟨_, rfl, .inl ⟨rfl, rfl⟩, sm4, fun c hc => by cases hc⟩
      rw [if_neg (by simpa using h2)] at hr2
      have h2' : (e2 != 0) = false := by simp [h2]
      subst hr2
      rw [L99_2_eq]
      simp [a22_0, a22_1, t22, t23, t6]
      refine goT_of T3 ?_
      simp [t1, t8]
      refine goT_of T4 ?_
      have hny : notTup y = true := by rw [hya]; rfl
      simp [h2', Go.Ot.packV, t8, hny]
      exact ⟨_, rfl, hrw4, sm4, fun c hc => by have := yn c hc; have := own.lt R.wf hc; have := T4.grow.next; omega⟩
end Go.Proofs.YtnomffikflfilaaGreat.E8
namespace Go.Proofs.YtnomffikflfilaaGreat.E8
open I8
open Go.Ot Go.RowKit
set_option linter.unusedSimpArgs false
set_option linter.unusedVariables false
set_option maxRecDepth 100000
def smQ (q : Bool × Int) : Prop := q.1 = true → 0 ≤ q.2 ∧ q.2 ≤ 255
theorem one_parts {x : In} {cells long : Int} (h : oneV x cells long = 0) : valid x.kind = true ∧ c2V (shp x.kind) x = false ∧ c3V (shp x.kind) x = false ∧ c4V (shp x.kind) x = false ∧ c5V (shp x.kind) x cells = false := by
  unfold oneV at h
  cases hv : valid x.kind with
  | false => rw [if_pos hv] at h; cases h
  | true =>
    rw [if_neg (by simp [hv])] at h
    cases h2 : c2V (shp x.kind) x with
    | true => rw [if_pos h2] at h; cases h
    | false =>
      rw [if_neg (by simp [h2])] at h
      cases h3 : c3V (shp x.kind) x with
      | true => rw [if_pos h3] at h; cases h
      | false =>
        rw [if_neg (by simp [h3])] at h
        cases h4 : c4V (shp x.kind) x with
        | true => rw [if_pos h4] at h; cases h
        | false =>
          rw [if_neg (by simp [h4])] at h
          cases h5 : c5V (shp x.kind) x cells with
          | true => rw [if_pos h5] at h; cases h
          | false => exact ⟨rfl, rfl, rfl, rfl, rfl⟩
theorem sms {x : In} {cells long : Int} (h : oneV x cells long = 0) : ∀ q ∈ pairs (shp x.kind) x, smQ q := by
  obtain ⟨hv, h2, h3, h4, h5⟩ := one_parts h
  obtain ⟨s, hs⟩ : ∃ s, s = shp x.kind := ⟨_, rfl⟩
  rw [← hs] at h2 h3 h5 ⊢
  unfold c2V at h2
  unfold c3V badR at h3
  unfold c5V at h5
  simp only [Bool.or_eq_false_iff, Bool.and_eq_false_imp, decide_eq_false_iff_not] at h2 h3 h5
  intro q hq
  simp only [pairs, List.mem_cons, List.mem_nil_iff, or_false] at hq
  rcases hq with rfl | rfl | rfl | rfl <;> intro hh <;> simp only at hh ⊢
  · simp only [Bool.or_eq_true] at hh
    rcases hh with g | g
    · have := h2.2 g; omega
    · have := h2.1 g; omega
  · have := h3.1.1 hh; omega
  · have := h3.1.2 hh; omega
  · simp only [Bool.or_eq_true] at hh
    rcases hh with g | g
    · have := h3.2 g; omega
    · have := h5 g
      by_cases h44 : 4 < cells
      · rw [if_pos h44] at this; omega
      · rw [if_neg h44] at this; omega
theorem zeros {x : In} {cells long : Int} (h : oneV x cells long = 0) : ((shp x.kind).a = false → x.a = 0) ∧ ((shp x.kind).b = false → x.b = 0) ∧ (((shp x.kind).c || (shp x.kind).cell) = false → x.c = 0) ∧ ((shp x.kind).k = false → x.k = 0) ∧ (((shp x.kind).one || (shp x.kind).two) = false → x.op = 0) := by
  obtain ⟨hv, h2, h3, h4, h5⟩ := one_parts h
  obtain ⟨s, hs⟩ : ∃ s, s = shp x.kind := ⟨_, rfl⟩
  rw [← hs] at h4 ⊢
  obtain ⟨sa, sb, sc, sce, sk, st, so, stw⟩ := s
  revert h4
  cases sa <;> cases sb <;> cases sc <;> cases sce <;> cases sk <;> cases so <;> cases stw <;> first | (simp [c4V]; done) | (simp [c4V]; intros; simp [*])
theorem stU_of (has : Bool) (set : In → Int → In) (x : In) (v : Int) (r : List Nat) (hv : smQ (has, v)) : stU 256 has set (x, encP (has, v) ++ r, 0) = (if has then set x v else x, r, 0) := by
  cases has with
  | false => simp [stU, encP]
  | true =>
    have h := hv rfl
    simp only at h
    have e : encP (true, v) = encU v.toNat := rfl
    have e2 : rdP 256 (encU v.toNat ++ r) 0 = (v.toNat, r, 0) := by
      unfold rdP
      rw [uS_of (by omega)]
      simp only
      rw [Nat.min_eq_left (by omega)]
    rw [e]
    simp only [stU, e2, if_true]
    rw [show ((v.toNat : Nat) : Int) = v by omega]
theorem stK_of (has : Bool) (x : In) (k : Int) (r : List Nat) (hk : okI k) : stK has (x, (if has then encU (zz k) else []) ++ r, 0) = (if has then { x with k := k } else x, r, 0) := by
  cases has with
  | false => simp [stK]
  | true =>
    simp only [stK, if_true]
    rw [iS_of hk]
theorem parts_of {x : In} {cells long : Int} (h : oneV x cells long = 0) (hk : okI x.k) (r : List Nat) :
    partsS 256 (shp x.kind) (newI x.kind, encPs (pairs (shp x.kind) x) ++ (if (shp x.kind).k then encU (zz x.k) else []) ++ r, 0) = (x, r, 0) := by
  have hq := sms h
  have hz := zeros h
  obtain ⟨s, hs⟩ : ∃ s, s = shp x.kind := ⟨_, rfl⟩
  rw [← hs] at hq hz ⊢
  have e : encPs (pairs s x) = encP (s.one || s.two, x.op) ++ (encP (s.a, x.a) ++ (encP (s.b, x.b) ++ encP (s.c || s.cell, x.c))) := by simp [encPs, pairs]
  simp only [partsS, it3]
  rw [e]
  simp only [List.append_assoc]
  rw [stU_of _ _ _ _ _ (hq _ (by simp [pairs])), stU_of _ _ _ _ _ (hq _ (by simp [pairs])), stU_of _ _ _ _ _ (hq _ (by simp [pairs])), stU_of _ _ _ _ _ (hq _ (by simp [pairs])), stK_of _ _ _ _ hk]
  obtain ⟨sa, sb, sc, sce, sk, st, so, stw⟩ := s
  obtain ⟨xk, xo, xa, xb, xc, xkk⟩ := x
  simp only at hz ⊢
  obtain ⟨z1, z2, z3, z4, z5⟩ := hz
  congr 1
  generalize hcc : (sc || sce) = cc at *
  generalize hoo : (so || stw) = oo at *
  cases sa <;> cases sb <;> cases cc <;> cases sk <;> cases oo <;> simp_all [newI, setOp, setA, setB, setC]
theorem loop_of {cells long : Int} : ∀ (l : List In) (r : List Nat) (acc : List In), (∀ x ∈ l, oneV x cells long = 0) → (∀ x ∈ l, okI x.k) → loopS 256 l.length (encAll l ++ r) 0 acc = (0, acc ++ l, r, 0)
  | [], r, acc, _, _ => by simp [loopS, encAll]
  | x :: l, r, acc, h, hk => by
    have hx := h x (by simp)
    have hkx := hk x (by simp)
    obtain ⟨hv, _⟩ := one_parts hx
    have hr : 1 ≤ x.kind ∧ x.kind ≤ 13 := by simpa [valid] using hv
    have e : encAll (x :: l) ++ r = encU x.kind.toNat ++ (encPs (pairs (shp x.kind) x) ++ (if (shp x.kind).k then encU (zz x.k) else []) ++ (encAll l ++ r)) := by simp [encAll, encIns]
    have e2 : rdP 256 (encU x.kind.toNat ++ (encPs (pairs (shp x.kind) x) ++ (if (shp x.kind).k then encU (zz x.k) else []) ++ (encAll l ++ r))) 0 = (x.kind.toNat, encPs (pairs (shp x.kind) x) ++ (if (shp x.kind).k then encU (zz x.k) else []) ++ (encAll l ++ r), 0) := by
      unfold rdP
      rw [uS_of (by omega)]
      simp only
      rw [Nat.min_eq_left (by omega)]
    rw [e]
    simp only [List.length_cons, loopS, e2]
    rw [if_neg (by simp : ¬ (0 : Nat) ≠ 0), show ((x.kind.toNat : Nat) : Int) = x.kind by omega, if_neg (by simp [hv]), parts_of hx hkx]
    simp only
    rw [loop_of l r _ (fun y hy => h y (by simp [hy])) (fun y hy => hk y (by simp [hy]))]
    simp
theorem encAll_ge : ∀ l : List In, l.length ≤ (encAll l).length
  | [] => by simp [encAll]
  | x :: l => by
    have := encAll_ge l
    have h := encU_pos x.kind.toNat
    have e : (encAll (x :: l)).length = (encIns x).length + (encAll l).length := by simp [encAll]
    have e2 : (encU x.kind.toNat).length ≤ (encIns x).length := by simp [encIns]
    rw [e, List.length_cons]; omega
theorem back_of {l : List In} {cells : Int} (h : (checkV l cells).2 = 0) (hk : ∀ x ∈ l, okI x.k) : decS 256 (encV l) cells = (l, 0) := by
  obtain ⟨h1, h2, h3⟩ := check_ok h
  have hg := encAll_ge l
  unfold decS encV
  rw [countS_of (by omega) hg]
  simp only
  have := loop_of (cells := cells) (long := l.length) l [] [] h1 hk
  rw [List.append_nil] at this
  rw [this]
  simp only [endS, List.nil_append]
  rw [if_neg (by simp : ¬ (0 : Nat) ≠ 0), if_neg (by simp [endN]), if_neg (by simp [h])]
end Go.Proofs.YtnomffikflfilaaGreat.E8
