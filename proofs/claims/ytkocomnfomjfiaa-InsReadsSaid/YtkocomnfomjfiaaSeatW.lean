/-
  The readers (carried over from another chapter's proof).
-/
import Derived.Test.YtkocomnfomjfiaaSeatU
namespace Go.Proofs.Ytkocomnfomjfiaa
open Go.Ot Go.RowKit
set_option linter.unusedSimpArgs false
set_option linter.unusedVariables false
theorem sub_bs {H : Heap} {b off n c : Nat} {l : List Nat} (h : ∀ i (h : i < l.length), H.load ⟨b, off + i, none⟩ = some (.int .u8 ((l[i] : Nat) : Int))) (lo hi : Nat) (h1 : lo ≤ hi) (h2 : hi ≤ l.length) (c' : Nat) :
    Bs H (.slice (some ⟨b, off + lo, none⟩) (hi - lo) c') ((l.take hi).drop lo) := by
  have hlen : ((l.take hi).drop lo).length = hi - lo := by simp; omega
  refine .inr ⟨b, off + lo, c', by rw [hlen], fun i hi' => ?_⟩
  rw [hlen] at hi'
  rw [show off + lo + i = off + (lo + i) by omega, h (lo + i) (by omega)]
  simp
/-- A part of bytes that may be read may be read. -/
theorem Bs.part {H : Heap} {x : Value} {l : List Nat} (h : Bs H x l) (lo hi : Nat) (h1 : lo ≤ hi) (h2 : hi ≤ l.length) (h0 : 0 < l.length) :
    (∃ a c, sSlice 1 x (some (.int .i64 (lo : Int))) (some (.int .i64 (hi : Int))) none = some (.slice (some a) (hi - lo) c) ∧ Bs H (.slice (some a) (hi - lo) c) ((l.take hi).drop lo)) ∧
    (∃ a c, sSlice 1 x none (some (.int .i64 (hi : Int))) none = some (.slice (some a) hi c) ∧ Bs H (.slice (some a) hi c) (l.take hi)) ∧
    (∃ a c, sSlice 1 x (some (.int .i64 (lo : Int))) none none = some (.slice (some a) (l.length - lo) c) ∧ Bs H (.slice (some a) (l.length - lo) c) (l.drop lo)) := by
  rcases h with ⟨rfl, rfl⟩ | ⟨b, off, c, rfl, h⟩
  · simp at h0
  · have hlo : lo ≤ l.length := by omega
    refine ⟨⟨⟨b, off + lo, none⟩, (if lo = 0 then (if c = 1 then (if hi = l.length then 1 else 2) else c) else 2), ?_, sub_bs (n := 0) (c := 0) h lo hi h1 h2 _⟩,
      ⟨⟨b, off, none⟩, (if c = 1 then (if hi = l.length then 1 else 2) else c), ?_, ?_⟩, ⟨⟨b, off + lo, none⟩, (if lo = 0 then c else 2), ?_, ?_⟩⟩
    · simp [sSlice, bnd, h1, h2, add_own]
    · simp [sSlice, bnd, h2, add_own]
    · simpa using sub_bs (n := 0) (c := 0) h 0 hi (by omega) h2 (if c = 1 then (if hi = l.length then 1 else 2) else c)
    · simp [sSlice, bnd, hlo, add_own]
      by_cases hz : lo = 0
      · by_cases hc : c = 1 <;> simp [hz, hc]
      · simp [hz]
    · simpa using sub_bs (n := 0) (c := 0) h lo l.length (by omega) (Nat.le_refl _) (if lo = 0 then c else 2)
/-- A copy in new memory. -/
theorem copied {H : Heap} (hw : H.WF) {x : Value} {l : List Nat} (h : Bs H x l) (hl : l.length ≤ 140737488355328) :
    ∃ y HA, sAppend (H.new 5 1 []) 5 1 1 (sl H.next 0) x = some (.slice y l.length 0, HA) ∧ OG H HA (.slice none 0 0) l (.slice y l.length 0) := by
  obtain ⟨H2, hH2⟩ : ∃ H2, H2 = H.new 5 1 [] := ⟨_, rfl⟩
  have w2 : H2.WF := by rw [hH2]; exact WF_new hw _ _ _
  have n2 : H2.next = H.next + 1 := by rw [hH2]; rfl
  have k2 : ∀ b, b < H.next → H2.blk b = H.blk b := fun b hb => by rw [hH2]; simp [show b ≠ H.next by omega]
  have o2 : Own H2 5 1 ([] : List Nat).length (bc []) (sl H.next 0) := Own.mk (by simp [bc]) (by rw [hH2]; exact hw.next_ge) (by rw [hH2]; simp [bc])
  have eB : H2.base = H.base := by rw [hH2]; rfl
  obtain ⟨y, HA, hap, aA⟩ := OG.pour w2 o2 ((h.keep hw eB k2).src) (by simpa using hl)
  simp only [List.length_nil, Nat.zero_add, List.nil_append] at hap aA
  rw [hH2] at hap
  refine ⟨y, HA, hap, aA.base.trans eB, ?_, aA.wf, aA.own, ?_, ?_⟩
  · have := aA.next; omega
  · intro b hlt _
    exact (aA.same b (by omega) (by simp; omega)).trans (k2 b hlt)
  · intro b hb
    rcases aA.old b hb with h | h
    · simp at h; omega
    · exact .inr (by omega)
/-- At p stands a reader of these bytes, at this place, with this error (0: none). -/
structure RD (H : Heap) (p : Nat) (x : Value) (b : List Nat) (at' fail : Nat) : Prop where
  hp : ¬ p < H.B
  bp : H.blk p = some ⟨92, 3, [x, .int .i64 (at' : Int), .int .i64 (fail : Int)]⟩
  bs : Bs H x b
  px : blkOf x ≠ some p
  le : at' ≤ b.length
  lt : ∀ c ∈ b, c < 256
  small : b.length ≤ 140737488355328
abbrev rdC (x : Value) (at' fail : Nat) : List Value := [x, .int .i64 (at' : Int), .int .i64 (fail : Int)]
theorem Bs.put {H : Heap} {x : Value} {l : List Nat} (h : Bs H x l) {p : Nat} (cs : List Value) (hx : blkOf x ≠ some p) : Bs (H.put p cs) x l := by
  rcases h with h | ⟨b, off, c, rfl, h⟩
  · exact .inl h
  · refine .inr ⟨b, off, c, rfl, fun i hi => ?_⟩
    have hb : b ≠ p := fun e => hx (by rw [e]; rfl)
    rw [load_put, if_neg hb]
    split <;> exact h i hi
theorem RD.step {H : Heap} {p : Nat} {x : Value} {b : List Nat} {at' fail : Nat} (h : RD H p x b at' fail) (at2 fail2 : Nat) (hle : at2 ≤ b.length) : RD (H.put p (rdC x at2 fail2)) p x b at2 fail2 :=
  ⟨by simpa using h.hp, by simp [h.bp], h.bs.put _ h.px, h.px, hle, h.lt, h.small⟩
theorem RD.same {H : Heap} {p : Nat} {x : Value} {b : List Nat} {at' fail : Nat} (h : RD H p x b at' fail) : H.put p (rdC x at' fail) = H := put_self h.bp
theorem left_T {H : Heap} {p : Nat} {x : Value} {b : List Nat} {at' fail : Nat} (h : RD H p x b at' fail) :
    T Try.prog 48 [ptr p] H (.int .i64 ((if fail = 0 then b.length - at' else 0 : Nat) : Int)) H := by
  refine T_eq hm light48 ?_
  have l0 := fun off => load_at (off := off) h.hp h.bp
  obtain ⟨a, c, hx⟩ := h.bs.len
  have hle := h.le
  have hsm := h.small
  have e1 : IntKind.i64.wrap ((b.length : Int) - (at' : Int)) = ((b.length - at' : Nat) : Int) := by rw [w64 _ (by omega)]; omega
  subst hx
  by_cases hf : fail = 0
  · subst hf; simp [L48, l0, e1]
  · have hf2 : ((fail : Int) != 0) = true := bne_iff_ne.2 (by omega)
    simp [L48, l0, hf, hf2]
theorem fail_T {H : Heap} {p : Nat} {x : Value} {b : List Nat} {at' fail : Nat} (h : RD H p x b at' fail) : T Try.prog 40 [ptr p] H (.int .i64 (fail : Int)) H := by
  refine T_eq hm light40 ?_
  have l0 := fun off => load_at (off := off) h.hp h.bp
  simp [L40, l0]
theorem stop_T {H : Heap} {p : Nat} {x : Value} {b : List Nat} {at' fail : Nat} (h : RD H p x b at' fail) (e : Nat) :
    ∃ v, T Try.prog 49 [ptr p, .int .i64 (e : Int)] H v (H.put p (rdC x at' (if fail = 0 then e else fail))) := by
  have l0 := fun off => load_at (off := off) h.hp h.bp
  have s0 := fun off v => store_own (off := off) (v := v) h.hp h.bp
  have hs := h.same
  refine ⟨.tuple #[], T_eq hm light49 ?_⟩
  by_cases hf : fail = 0
  · subst hf; simp [L49, l0, s0, packV]
  · have hf2 : ((fail : Int) == 0) = false := by simp; omega
    simp [L49, l0, s0, hf, hf2, packV]
    exact hs.symm
def nx (b : List Nat) (at' fail : Nat) : Nat × Nat × Nat := if fail ≠ 0 then (0, at', fail) else if at' = b.length then (0, at', 20) else (b.getD at' 0, at' + 1, 0)
theorem next_T {H : Heap} {p : Nat} {x : Value} {b : List Nat} {at' fail : Nat} (h : RD H p x b at' fail) :
    T Try.prog 52 [ptr p] H (.int .u8 ((nx b at' fail).1 : Int)) (H.put p (rdC x (nx b at' fail).2.1 (nx b at' fail).2.2)) := by
  have l0 := fun off => load_at (off := off) h.hp h.bp
  have s0 := fun off v => store_own (off := off) (v := v) h.hp h.bp
  have hs := h.same
  obtain ⟨a, c, hx⟩ := h.bs.len
  have hle := h.le
  have hsm := h.small
  refine T_eq hm light52 ?_
  by_cases hf : fail = 0
  · subst hf
    by_cases ha : at' = b.length
    · subst ha
      obtain ⟨v, T1⟩ := stop_T h 20
      have h2 := h.step b.length 20 (Nat.le_refl _)
      have l2 := fun off => load_at (off := off) h2.hp h2.bp
      have e : nx b b.length 0 = (0, b.length, 20) := by simp [nx]
      rw [e]
      simp only [if_true] at T1
      subst hx
      simp [L52, l0]
      refine goT_of T1 ?_
      simp [l2]
    · have hlt : at' < b.length := by omega
      have hlt' : (at' : Int) < b.length := by omega
      have hai : ((at' : Int) == (b.length : Int)) = false := by simp; omega
      have e : nx b at' 0 = (b[at'], at' + 1, 0) := by simp [nx, ha, List.getD, hlt]
      have h2 := h.step (at' + 1) 0 (by omega)
      have l2 := fun off => load_at (off := off) h2.hp h2.bp
      have e1 : IntKind.i64.wrap ((at' : Int) + 1) = ((at' + 1 : Nat) : Int) := by rw [w64 _ (by omega)]; omega
      have e2 : IntKind.i64.wrap (((at' + 1 : Nat) : Int) - 1) = (at' : Int) := by rw [w64 _ (by omega)]; omega
      obtain ⟨bb, off, c', hx2, hld⟩ := h2.bs.at hlt
      rw [e]
      subst hx2
      obtain ⟨q, hq⟩ : ∃ q, q = at' + 1 := ⟨_, rfl⟩
      rw [← hq] at e1 e2 l2 h2 hld ⊢
      have l2' : ∀ o, (H.put p [.slice (some ⟨bb, off, none⟩) b.length c', .int .i64 (q : Int), .int .i64 0]).load ⟨p, o, none⟩ = [Value.slice (some ⟨bb, off, none⟩) b.length c', .int .i64 (q : Int), .int .i64 0][o]? := l2
      have hld' : (H.put p [.slice (some ⟨bb, off, none⟩) b.length c', .int .i64 (q : Int), .int .i64 0]).load ⟨bb, off + at', none⟩ = some (.int .u8 ((b[at'] : Nat) : Int)) := hld
      simp [L52, l0, hai, ha, s0, e1, l2', e2, hlt', hld']
      rfl
  · have e : nx b at' fail = (0, at', fail) := by simp [nx, hf]
    have hf2 : ((fail : Int) == 0) = false := by simp; omega
    have hf3 : ((fail : Int) != 0) = true := bne_iff_ne.2 (by omega)
    rw [e, hs]
    simp [L52, l0, hf, hf2, hf3]
theorem read_T2 {H : Heap} (hw : H.WF) {x : Value} {l : List Nat} (h : Bs H x l) (hlt : ∀ c ∈ l, c < 256) (hl : l.length ≤ 140737488355328) :
    ∃ v H', T Try.prog 37 [x] H v H' ∧ ∃ p y, v = ptr p ∧ RD H' p y l 0 0 ∧ H.next ≤ p ∧ H'.WF ∧ H'.base = H.base ∧ Same H H' [] ∧ (∀ b, blkOf y = some b → b < H'.next) ∧ (∀ b, blkOf y = some b → H.next ≤ b) := by
  refine T_by hm light37 ?_
  obtain ⟨a, HA, hap, aA⟩ := OG.pour hw (nil_own H) h.src (by simpa using hl)
  simp only [List.length_nil, Nat.zero_add, List.nil_append] at hap aA
  obtain ⟨xa, xc, hx⟩ := h.len
  rw [hx] at hap ⊢
  have hpB := aA.wf.next_ge
  simp [L37, hap]
  have k : ∀ b, b < HA.next → (HA.new 92 3 [.slice a l.length 0, .int .i64 0, .int .i64 0]).blk b = HA.blk b := fun b hb => by simp [show b ≠ HA.next by omega]
  refine ⟨.slice a l.length 0, ⟨by simpa using hpB, by simp, (own_bs aA.own).keep (H' := HA.new 92 3 [.slice a l.length 0, .int .i64 0, .int .i64 0]) aA.wf rfl k, ?_, Nat.zero_le _, hlt, hl⟩, aA.next, WF_new aA.wf _ _ _, aA.base, ?_, ?_, ?_⟩
  · intro hb
    have := aA.own.lt aA.wf hb
    omega
  · intro b hb _
    have := aA.next
    rw [k b (by omega)]
    exact aA.olds b hb
  · intro b hb
    have := aA.own.lt aA.wf hb
    omega
  · intro b hb
    rcases aA.old b hb with h1 | h1
    · cases h1
    · exact h1
/-- At p stands a reader of the bytes b; l is left; its error (0: none). -/
structure RS (H : Heap) (p : Nat) (x : Value) (b l : List Nat) (fail : Nat) : Prop where
  rd : RD H p x b (b.length - l.length) fail
  suf : l <:+ b
abbrev rsC (x : Value) (b l : List Nat) (fail : Nat) : List Value := rdC x (b.length - l.length) fail
theorem RS.step {H : Heap} {p : Nat} {x : Value} {b l : List Nat} {fail : Nat} (h : RS H p x b l fail) {l2 : List Nat} (fail2 : Nat) (hs : l2 <:+ l) : RS (H.put p (rsC x b l2 fail2)) p x b l2 fail2 :=
  ⟨h.rd.step _ _ (by omega), hs.trans h.suf⟩
theorem RS.same {H : Heap} {p : Nat} {x : Value} {b l : List Nat} {fail : Nat} (h : RS H p x b l fail) : H.put p (rsC x b l fail) = H := h.rd.same
theorem RS.lt {H : Heap} {p : Nat} {x : Value} {b l : List Nat} {fail : Nat} (h : RS H p x b l fail) : ∀ c ∈ l, c < 256 := fun c hc => h.rd.lt c (h.suf.mem hc)
theorem RS.len {H : Heap} {p : Nat} {x : Value} {b l : List Nat} {fail : Nat} (h : RS H p x b l fail) : l.length ≤ 140737488355328 := Nat.le_trans h.suf.length_le h.rd.small
def nxS (l : List Nat) (fail : Nat) : Nat × List Nat × Nat := if fail ≠ 0 then (0, l, fail) else match l with
  | [] => (0, [], 20)
  | c :: l => (c, l, 0)
theorem next_S {H : Heap} {p : Nat} {x : Value} {b l : List Nat} {fail : Nat} (h : RS H p x b l fail) :
    T Try.prog 52 [ptr p] H (.int .u8 ((nxS l fail).1 : Int)) (H.put p (rsC x b (nxS l fail).2.1 (nxS l fail).2.2)) := by
  have h1 := next_T h.rd
  have hl := h.suf.length_le
  obtain ⟨pre, hb⟩ := h.suf
  by_cases hf : fail = 0
  · subst hf
    cases l with
    | nil =>
      have e : nx b (b.length - ([] : List Nat).length) 0 = (0, b.length, 20) := by simp [nx]
      rw [e] at h1
      exact h1
    | cons c l =>
      subst hb
      have e1 : (pre ++ c :: l).length - (c :: l).length = pre.length := by simp
      have e2 : nx (pre ++ c :: l) pre.length 0 = (c, pre.length + 1, 0) := by simp [nx]
      have e3 : (pre ++ c :: l).length - l.length = pre.length + 1 := by simp; omega
      rw [e1, e2] at h1
      have e4 : nxS (c :: l) 0 = (c, l, 0) := rfl
      rw [e4]
      simp only [rsC, e3]
      exact h1
  · have e : nx b (b.length - l.length) fail = (0, b.length - l.length, fail) := by simp [nx, hf]
    rw [e] at h1
    simpa [nxS, hf] using h1
theorem nxS_suf (l : List Nat) (fail : Nat) : (nxS l fail).2.1 <:+ l := by
  unfold nxS
  split
  · exact List.suffix_refl _
  · split
    · exact List.suffix_refl _
    · exact List.suffix_cons _ _
/-- A number from 0 on, from its i-th byte on. -/
def tu : Nat → Nat → Nat → List Nat → Nat × List Nat × Nat
  | 0, _, a, l => (a, l, 0)
  | _ + 1, _, _, [] => (0, [], 20)
  | k + 1, i, a, c :: l => if (0 < i ∧ c = 0) ∨ (i = 9 ∧ 1 < c) then (0, l, 21) else if c < 128 then (a + c % 128 * 2 ^ (7 * i), l, 0) else tu k (i + 1) (a + c % 128 * 2 ^ (7 * i)) l
def uS (l : List Nat) (fail : Nat) : Nat × List Nat × Nat := if fail ≠ 0 then (0, l, fail) else tu 10 0 0 l
theorem tu_suf : ∀ (k i a : Nat) (l : List Nat), (tu k i a l).2.1 <:+ l
  | 0, i, a, l => List.suffix_refl _
  | k + 1, i, a, [] => List.suffix_refl _
  | k + 1, i, a, c :: l => by
    simp only [tu]
    split
    · exact List.suffix_cons _ _
    · split
      · exact List.suffix_cons _ _
      · exact (tu_suf k _ _ l).trans (List.suffix_cons _ _)
theorem uS_suf (l : List Nat) (fail : Nat) : (uS l fail).2.1 <:+ l := by
  unfold uS; split
  · exact List.suffix_refl _
  · exact tu_suf _ _ _ _
theorem units (i : Nat) (h : i ≤ 9) : ∃ U, U = 2 ^ (7 * i) ∧ 0 < U ∧ (i ≤ 8 → U ≤ 72057594037927936 ∧ 2 ^ (7 * (i + 1)) = U * 128) ∧ (i = 9 → U = 9223372036854775808) := by
  refine ⟨_, rfl, Nat.pow_pos (by decide), fun h8 => ⟨?_, ?_⟩, fun h9 => by subst h9; rfl⟩
  · rw [show 72057594037927936 = 2 ^ 56 from rfl]; exact Nat.pow_le_pow_right (by decide) (by omega)
  · rw [show 7 * (i + 1) = 7 * i + 7 by omega, Nat.pow_add]
def InvR (H : Heap) (p : Nat) (x : Value) (b : List Nat) (want : Nat × List Nat × Nat) (k : Nat) (t : Tm) (H1 : Heap) : Prop :=
  ∃ (i a : Nat) (l : List Nat), i + k = 10 ∧ t 0 = ptr p ∧ t 3 = .int .u64 (a : Int) ∧ t 6 = .int .i64 (i : Int) ∧ a < 2 ^ (7 * i) ∧ H1 = H.put p (rsC x b l 0) ∧ RS H1 p x b l 0 ∧ tu k i a l = want
theorem ruint_T {H : Heap} {p : Nat} {x : Value} {b l : List Nat} {fail : Nat} (h : RS H p x b l fail) :
    T Try.prog 47 [ptr p] H (.int .u64 ((uS l fail).1 : Int)) (H.put p (rsC x b (uS l fail).2.1 (uS l fail).2.2)) := by
  refine T_eq hm light47 ?_
  by_cases hf : fail = 0
  case neg =>
    have T1 := next_S h
    have e1 : nxS l fail = (0, l, fail) := by simp [nxS, hf]
    have e2 : uS l fail = (0, l, fail) := by simp [uS, hf]
    rw [e1] at T1
    rw [e2]
    simp only at T1 ⊢
    rw [h.same] at T1 ⊢
    simp [L47]
    refine loop_at (fun (k : Nat) (t : Tm) (H1 : Heap) => t 0 = ptr p ∧ t 6 = .int .i64 0 ∧ H1 = H) 10 ?_ ?_
    · simp
    · rintro k t H1 ⟨t0, t6, rfl⟩
      have l0 := fun off => load_at (off := off) h.rd.hp h.rd.bp
      simp [L47_1, t0, t6]
      refine goT_of T1 ?_
      simp [t0, l0, hf]
  subst hf
  have eu : uS l 0 = tu 10 0 0 l := by simp [uS]
  rw [eu]
  obtain ⟨want, hw⟩ : ∃ want, want = tu 10 0 0 l := ⟨_, rfl⟩
  rw [← hw]
  simp [L47]
  refine loop_at (InvR H p x b want) 10 ?_ ?_
  · exact ⟨0, 0, l, rfl, by simp, by simp, by simp, by simp, h.same.symm, h, hw.symm⟩
  · rintro k t H1 ⟨i, a, l, hik, t0, t3, t6, ha, hH1, hr, htu⟩
    cases k with
    | zero =>
      have : i = 10 := by omega
      subst this
      simp only [tu] at htu
      subst htu
      simp [L47_1, t0, t3, t6]
      exact hH1
    | succ k =>
      have hi : i < 10 := by omega
      have T1 := next_S hr
      cases l with
      | nil =>
        simp only [tu] at htu
        subst htu
        have e1 : nxS [] 0 = (0, [], 20) := rfl
        rw [e1] at T1
        have hr2 := hr.step (l2 := []) 20 (List.suffix_refl _)
        have l2 := fun off => load_at (off := off) hr2.rd.hp hr2.rd.bp
        simp [L47_1, t0, t3, t6, hi]
        refine goT_of T1 ?_
        simp [t0, l2]
        subst hH1
        simp [put_put]
      | cons c l =>
        have e1 : nxS (c :: l) 0 = (c, l, 0) := rfl
        rw [e1] at T1
        have hr2 := hr.step (l2 := l) 0 (List.suffix_cons _ _)
        have l2 := fun off => load_at (off := off) hr2.rd.hp hr2.rd.bp
        have hc := hr.lt c (by simp)
        obtain ⟨U, hU, U0, U8, U9⟩ := units i (by omega)
        simp only [tu] at htu
        simp only [rsC] at T1 hr2 l2
        obtain ⟨at2, hat⟩ : ∃ at2, at2 = b.length - l.length := ⟨_, rfl⟩
        obtain ⟨m, hmm⟩ : ∃ m, m = c % 128 := ⟨_, rfl⟩
        rw [← hU, ← hmm] at htu
        rw [← hU] at ha
        rw [← hat] at T1 hr2 l2
        by_cases hbad : (0 < i ∧ c = 0) ∨ (i = 9 ∧ 1 < c)
        · rw [if_pos hbad] at htu
          subst htu
          obtain ⟨v3, T3⟩ := stop_T hr2.rd 21
          simp only [if_true] at T3
          simp [L47_1, t0, t3, t6, hi]
          refine goT_of T1 ?_
          rcases hbad with ⟨h1, h2⟩ | ⟨h1, h2⟩
          · subst h2
            simp [t0, l2, h1]
            refine goT_of T3 ?_
            simp
            subst hH1
            simp [put_put, hat]
          · have e3 : ¬ c = 0 := by omega
            subst h1
            simp [t0, l2, h2, e3]
            refine goT_of T3 ?_
            simp
            subst hH1
            simp [put_put, hat]
        · rw [if_neg hbad] at htu
          have f1 : i = 9 → c ≤ 1 := by intro h; omega
          have e1 : sBin .and (.int .u8 (c : Int)) (.int .u8 127) = some (.int .u8 (m : Int)) := by
            rw [sBin_and]
            have := and_u8 c 127 hc (by omega)
            rw [show c &&& 127 = m by rw [hmm]; exact Nat.and_two_pow_sub_one_eq_mod c 7] at this
            exact congrArg (fun z => some (Value.int .u8 z)) this
          have e2 : IntKind.u64.wrap (m : Int) = (m : Int) := wu64 _ (by omega)
          have e3 : IntKind.i64.wrap (7 * (i : Int)) = ((7 * i : Nat) : Int) := by rw [w64 _ (by omega)]; omega
          obtain ⟨s, hs⟩ : ∃ s, s = m * U := ⟨_, rfl⟩
          have hs64 : s < 18446744073709551616 := by
            rw [hs]
            by_cases h9 : i = 9
            · have := f1 h9; rw [U9 h9]; omega
            · have := (U8 (by omega)).1
              have : m * U ≤ 127 * 72057594037927936 := Nat.mul_le_mul (by omega) this
              omega
          have haU : a < 18446744073709551616 := by
            by_cases h9 : i = 9
            · have := U9 h9; omega
            · have := (U8 (by omega)).1; omega
          have e4 : sBin .shl (.int .u64 (m : Int)) (.int .i64 ((7 * i : Nat) : Int)) = some (.int .u64 (s : Int)) := by
            rw [shl_u64 .i64 m (7 * i) (by omega), ← hU, ← hs, Nat.mod_eq_of_lt hs64]
          have hor : a ||| s = a + s := by
            rw [hs, hU, Nat.or_comm, Nat.mul_comm, ← Nat.two_pow_add_eq_or_of_lt (by rw [← hU]; exact ha)]; omega
          have e5 : sBin .or (.int .u64 (a : Int)) (.int .u64 (s : Int)) = some (.int .u64 ((a + s : Nat) : Int)) := by
            rw [sBin_or, or_u64 a s haU hs64, hor]
          have g1 : 0 < i → ¬ c = 0 := fun h1 h2 => hbad (.inl ⟨h1, h2⟩)
          have e6 : (i : Int) + 1 = ((i + 1 : Nat) : Int) := by omega
          have e7 : IntKind.i64.wrap ((i : Int) + 1) = ((i + 1 : Nat) : Int) := by rw [w64 _ (by omega)]; omega
          obtain ⟨j, hj⟩ : ∃ j, j = 7 * i := ⟨_, rfl⟩
          obtain ⟨i1, hi1⟩ : ∃ i1, i1 = i + 1 := ⟨_, rfl⟩
          obtain ⟨a1, ha1⟩ : ∃ a1, a1 = a + s := ⟨_, rfl⟩
          rw [← hj] at e3 e4
          rw [← hi1] at e7
          rw [← ha1] at e5
          rw [← hs, ← ha1] at htu
          simp [L47_1, t0, t3, t6, hi]
          refine goT_of T1 ?_
          by_cases h128 : c < 128
          · have g3 := h128
            rw [if_pos h128] at htu
            subst htu
            by_cases hi0 : i = 0
            · have g5 : ¬ 0 < i := by omega
              have h9 : ¬ i = 9 := by omega
              simp [t0, t3, t6, l2, e1, e2, e3, e4, e5, g3, g5, h9]
              subst hH1
              simp [put_put, hat]
            · have g5 : 0 < i := by omega
              have hc0 : ¬ c = 0 := g1 g5
              have g4 := g5
              by_cases h9 : i = 9
              · have := f1 h9
                have g7 : ¬ 1 < c := by omega
                have h9d : decide (i = 9) = true := by simp [h9]
                simp [t0, t3, t6, l2, e1, e2, e3, e4, e5, g3, hc0, g5, g7, h9d]
                subst hH1
                simp [put_put, hat]
              · simp [t0, t3, t6, l2, e1, e2, e3, e4, e5, g3, hc0, g5, h9]
                subst hH1
                simp [put_put, hat]
          · have g3 := h128
            rw [if_neg h128] at htu
            have h9 : ¬ i = 9 := fun h => by have := f1 h; omega
            have hc0 : ¬ c = 0 := by omega
            have fin : a1 < 2 ^ (7 * i1) := by
              have h8 := (U8 (by omega)).2
              rw [hi1, h8, ha1, hs]
              have : m * U ≤ 127 * U := Nat.mul_le_mul_right _ (by omega)
              omega
            have fin2 : H1.put p (rdC x at2 0) = H.put p (rsC x b l 0) := by subst hH1; simp [put_put, hat]
            by_cases hi0 : i = 0
            · have g5 : ¬ 0 < i := by omega
              simp [t0, t3, t6, l2, e1, e2, e3, e4, e5, g3, g5, h9, e7]
              exact ⟨k, Nat.lt_succ_self k, i1, a1, l, by omega, by simp [t0], by simp, by simp, fin, fin2, ⟨hr2.rd, hr2.suf⟩, by rw [hi1]; exact htu⟩
            · have g5 : 0 < i := by omega
              simp [t0, t3, t6, l2, e1, e2, e3, e4, e5, g3, hc0, g5, h9, e7]
              exact ⟨k, Nat.lt_succ_self k, i1, a1, l, by omega, by simp [t0], by simp, by simp, fin, fin2, ⟨hr2.rd, hr2.suf⟩, by rw [hi1]; exact htu⟩
theorem left_S {H : Heap} {p : Nat} {x : Value} {b l : List Nat} {fail : Nat} (h : RS H p x b l fail) :
    T Try.prog 48 [ptr p] H (.int .i64 ((if fail = 0 then l.length else 0 : Nat) : Int)) H := by
  have := left_T h.rd
  have hl := h.suf.length_le
  rw [show b.length - (b.length - l.length) = l.length by omega] at this
  exact this
theorem fail_S {H : Heap} {p : Nat} {x : Value} {b l : List Nat} {fail : Nat} (h : RS H p x b l fail) : T Try.prog 40 [ptr p] H (.int .i64 (fail : Int)) H := fail_T h.rd
theorem load_off {H H' : Heap} (hb : H'.base = H.base) {b off : Nat} (hk : H'.blk b = H.blk b) : H'.load ⟨b, off, none⟩ = H.load ⟨b, off, none⟩ := by
  by_cases hB : b < H.B
  · exact load_ext hb hB
  · have hB' : ¬ b < H'.B := by rw [B_eq hb]; exact hB
    simp [Heap.load, hB, hB', hk]
theorem Bs.frame {H H' : Heap} {x : Value} {l : List Nat} (h : Bs H x l) (hb : H'.base = H.base) (hk : ∀ b, blkOf x = some b → H'.blk b = H.blk b) : Bs H' x l := by
  rcases h with h | ⟨b, off, c, rfl, h⟩
  · exact .inl h
  · exact .inr ⟨b, off, c, rfl, fun i hi => by rw [load_off hb (hk b rfl)]; exact h i hi⟩
theorem RS.frame {H H' : Heap} {p : Nat} {x : Value} {b l : List Nat} {fail : Nat} (h : RS H p x b l fail) (hb : H'.base = H.base) (hp : H'.blk p = H.blk p) (hk : ∀ b, blkOf x = some b → H'.blk b = H.blk b) : RS H' p x b l fail :=
  ⟨⟨by rw [B_eq hb]; exact h.rd.hp, by rw [hp]; exact h.rd.bp, h.rd.bs.frame hb hk, h.rd.px, h.rd.le, h.rd.lt, h.rd.small⟩, h.suf⟩
theorem tu_lt : ∀ (k i a : Nat) (l : List Nat), i + (k + 1) = 10 → a < 2 ^ (7 * i) → (∀ c ∈ l, c < 256) → (tu (k + 1) i a l).1 < 18446744073709551616
  | k, i, a, [], _, _, _ => by simp [tu]
  | k, i, a, c :: l, hik, ha, hl => by
    obtain ⟨U, hU, U0, U8, U9⟩ := units i (by omega)
    have hc := hl c (by simp)
    simp only [tu]
    rw [← hU] at ha ⊢
    have hm : c % 128 < 128 := Nat.mod_lt _ (by decide)
    split
    · exact (by decide : (0 : Nat) < 18446744073709551616)
    · rename_i hbad
      split
      · by_cases h9 : i = 9
        · have := U9 h9
          have : c % 128 ≤ 1 := by omega
          have : c % 128 * U ≤ 1 * U := Nat.mul_le_mul_right _ this
          simp only
          omega
        · have := (U8 (by omega)).1
          have : c % 128 * U ≤ 127 * U := Nat.mul_le_mul_right _ (by omega)
          simp only
          omega
      · cases k with
        | zero => omega
        | succ k =>
          refine tu_lt k (i + 1) _ l (by omega) ?_ (fun c hc => hl c (by simp [hc]))
          rw [(U8 (by omega)).2]
          have : c % 128 * U ≤ 127 * U := Nat.mul_le_mul_right _ (by omega)
          omega
theorem uS_lt (l : List Nat) (fail : Nat) (hl : ∀ c ∈ l, c < 256) : (uS l fail).1 < 18446744073709551616 := by
  unfold uS; split
  · simp
  · exact tu_lt 9 0 0 l rfl (by decide) hl
theorem tu_enc : ∀ (k i a : Nat) (l : List Nat), i + (k + 1) = 10 → (∀ c ∈ l, c < 256) → (tu (k + 1) i a l).2.2 = 0 →
    ∃ q, (tu (k + 1) i a l).1 = a + q * 2 ^ (7 * i) ∧ l = encU q ++ (tu (k + 1) i a l).2.1 ∧ (0 < i → q ≠ 0)
  | k, i, a, [], _, _, h => by simp [tu] at h
  | k, i, a, c :: l, hik, hl, h => by
    have hc := hl c (by simp)
    simp only [tu] at h ⊢
    split at h
    · cases h
    · rename_i hbad
      rw [if_neg hbad]
      split at h
      · rename_i h128
        rw [if_pos h128]
        refine ⟨c, by simp [Nat.mod_eq_of_lt h128], by rw [encU_small h128]; rfl, fun h0 h1 => hbad (.inl ⟨h0, h1⟩)⟩
      · rename_i h128
        rw [if_neg h128]
        cases k with
        | zero => omega
        | succ k =>
          obtain ⟨q, h1, h2, h3⟩ := tu_enc k (i + 1) _ l (by omega) (fun c hc => hl c (by simp [hc])) h
          have hq := h3 (by omega)
          refine ⟨c % 128 + 128 * q, ?_, ?_, fun _ => by omega⟩
          · rw [h1, show 7 * (i + 1) = 7 * i + 7 by omega, Nat.pow_add, Nat.add_mul, Nat.add_assoc, Nat.mul_comm 128 q, Nat.mul_assoc q 128, Nat.mul_comm 128]
          · rw [encU_big (by omega), show (c % 128 + 128 * q) % 128 + 128 = c by omega, show (c % 128 + 128 * q) / 128 = q by omega, List.cons_append, ← h2]
theorem uS_enc (l : List Nat) (hl : ∀ c ∈ l, c < 256) (h : (uS l 0).2.2 = 0) : l = encU (uS l 0).1 ++ (uS l 0).2.1 := by
  have e : uS l 0 = tu 10 0 0 l := by simp [uS]
  rw [e] at h ⊢
  obtain ⟨q, h1, h2, _⟩ := tu_enc 9 0 0 l rfl hl h
  rw [h1]
  simpa using h2
theorem encU_pos (n : Nat) : 0 < (encU n).length := by rw [encU]; split <;> simp
/-- A number of its digits. -/
def unzz (u : Nat) : Int := if u % 2 = 0 then ((u / 2 : Nat) : Int) else -((u / 2 : Nat) : Int) - 1
def iS (l : List Nat) (fail : Nat) : Int × List Nat × Nat := (unzz (uS l fail).1, (uS l fail).2.1, (uS l fail).2.2)
def leftN (l : List Nat) (fail : Nat) : Nat := if fail = 0 then l.length else 0
def atLeast (n : Int) : Nat := if n < 1 then 1 else n.toNat
def countS (l : List Nat) (fail : Nat) (least : Int) : Nat × List Nat × Nat :=
  if leftN (uS l fail).2.1 (uS l fail).2.2 / atLeast least < (uS l fail).1 then (0, (uS l fail).2.1, if (uS l fail).2.2 = 0 then 20 else (uS l fail).2.2) else uS l fail
def endN (l : List Nat) (fail : Nat) : Nat := if fail = 0 ∧ 0 < l.length then 21 else fail
theorem tu_fail : ∀ (k i a : Nat) (l : List Nat), (tu k i a l).2.2 ≠ 0 → (tu k i a l).1 = 0
  | 0, i, a, l, h => absurd rfl h
  | k + 1, i, a, [], h => rfl
  | k + 1, i, a, c :: l, h => by
    simp only [tu] at h ⊢
    split
    · rfl
    · rename_i h1
      rw [if_neg h1] at h
      split
      · rename_i h2
        rw [if_pos h2] at h
        exact absurd rfl h
      · rename_i h2
        rw [if_neg h2] at h
        exact tu_fail k _ _ l h
theorem uS_fail (l : List Nat) (fail : Nat) (h : (uS l fail).2.2 ≠ 0) : (uS l fail).1 = 0 := by
  unfold uS at h ⊢
  split
  · rfl
  · rename_i h1
    rw [if_neg h1] at h
    exact tu_fail _ _ _ _ h
theorem countS_le (l : List Nat) (fail : Nat) (least : Int) (h : (countS l fail least).2.2 = 0) : (countS l fail least).1 ≤ (countS l fail least).2.1.length := by
  unfold countS at h ⊢
  split
  · rename_i h1
    rw [if_pos h1] at h
    simp at h
    split at h
    · cases h
    · contradiction
  · rename_i h1
    rw [if_neg h1] at h
    simp only [leftN, h, if_true] at h1
    have : (uS l fail).2.1.length / atLeast least ≤ (uS l fail).2.1.length := Nat.div_le_self _ _
    omega
theorem countS_suf (l : List Nat) (fail : Nat) (least : Int) : (countS l fail least).2.1 <:+ l := by
  unfold countS; split <;> exact uS_suf l fail
theorem xor_0 (s : Nat) (hs : s < 9223372036854775808) : sBin .xor (.int .i64 (s : Int)) (.int .i64 0) = some (.int .i64 (s : Int)) := by
  rw [sBin_xor]
  have e : (BitVec.ofInt IntKind.i64.bits (s : Int)).toNat = s := bits_u64 s (by omega)
  have e0 : (BitVec.ofInt IntKind.i64.bits (0 : Int)).toNat = 0 := rfl
  rw [BitVec.toNat_xor, e, e0, Nat.xor_zero, w64 _ (by omega)]
theorem xor_1 (s : Nat) (hs : s < 9223372036854775808) : sBin .xor (.int .i64 (s : Int)) (.int .i64 (-1)) = some (.int .i64 (-(s : Int) - 1)) := by
  rw [sBin_xor]
  have e : (BitVec.ofInt IntKind.i64.bits (s : Int)).toNat = s := bits_u64 s (by omega)
  have e0 : (BitVec.ofInt IntKind.i64.bits (-1 : Int)).toNat = 18446744073709551615 := rfl
  rw [BitVec.toNat_xor, e, e0, xor_ones s (by omega)]
  congr 2
  simp only [IntKind.wrap, IntKind.bits, IntKind.signed]
  have : ((18446744073709551615 - s : Nat) : Int) = 18446744073709551615 - (s : Int) := by omega
  rw [this]
  simp
  omega
theorem rint_T {H : Heap} {p : Nat} {x : Value} {b l : List Nat} {fail : Nat} (h : RS H p x b l fail) :
    T Try.prog 41 [ptr p] H (.int .i64 (iS l fail).1) (H.put p (rsC x b (iS l fail).2.1 (iS l fail).2.2)) := by
  refine T_eq hm light41 ?_
  have T1 := ruint_T h
  have hlt := uS_lt l fail h.lt
  unfold iS
  obtain ⟨u, hu⟩ : ∃ u, u = (uS l fail).1 := ⟨_, rfl⟩
  rw [← hu] at T1 hlt ⊢
  obtain ⟨G, hG⟩ : ∃ G, G = H.put p (rsC x b (uS l fail).2.1 (uS l fail).2.2) := ⟨_, rfl⟩
  simp only
  rw [← hG] at T1 ⊢
  have e1 : sBin .shr (.int .u64 (u : Int)) (.int .u64 1) = some (.int .u64 ((u / 2 : Nat) : Int)) := shr_nat .u64 .u64 u 1 (by decide)
  have e2 : sBin .and (.int .u64 (u : Int)) (.int .u64 1) = some (.int .u64 ((u % 2 : Nat) : Int)) := by
    rw [sBin_and]
    have := and_u64 u 1 hlt (by omega)
    rw [Nat.and_one_is_mod] at this
    exact congrArg (fun z => some (Value.int .u64 z)) this
  obtain ⟨s, hs⟩ : ∃ s, s = u / 2 := ⟨_, rfl⟩
  have hs63 : s < 9223372036854775808 := by omega
  have e3 : IntKind.i64.wrap (s : Int) = (s : Int) := w64 _ (by omega)
  have x0 := xor_0 s hs63
  have x1 := xor_1 s hs63
  rw [← hs] at e1
  unfold unzz
  rw [← hs]
  by_cases hz : u % 2 = 0
  · rw [hz] at e2
    rw [if_pos hz]
    simp [L41]
    refine goT_of T1 ?_
    simp [e1, e2, e3, x0]
  · have h1 : u % 2 = 1 := by omega
    rw [h1] at e2
    rw [if_neg hz]
    simp [L41]
    refine goT_of T1 ?_
    simp [e1, e2, e3, x1, show IntKind.i64.wrap (-1) = -1 by decide]
theorem rend_T {H : Heap} {p : Nat} {x : Value} {b l : List Nat} {fail : Nat} (h : RS H p x b l fail) : T Try.prog 42 [ptr p] H (.int .i64 (endN l fail : Int)) H := by
  refine T_eq hm light42 ?_
  have l0 := fun off => load_at (off := off) h.rd.hp h.rd.bp
  obtain ⟨a, c, hx⟩ := h.rd.bs.len
  have hsl := h.suf.length_le
  subst hx
  by_cases hf : fail = 0
  · subst hf
    by_cases h1 : 0 < l.length
    · have e1 : b.length - l.length < b.length := by omega
      simp [L42, l0, endN, h1, e1]
    · have e1 : ¬ b.length - l.length < b.length := by omega
      simp [L42, l0, endN, h1, e1]
  · simp [L42, l0, endN, hf]
def okI2 (n : Int) : Prop := -9223372036854775808 ≤ n ∧ n ≤ 9223372036854775807
theorem rcount_T {H : Heap} {p : Nat} {x : Value} {b l : List Nat} {fail : Nat} (h : RS H p x b l fail) (least : Int) (hle : okI2 least) :
    T Try.prog 38 [ptr p, .int .i64 least] H (.int .i64 ((countS l fail least).1 : Int)) (H.put p (rsC x b (countS l fail least).2.1 (countS l fail least).2.2)) := by
  refine T_eq hm light38 ?_
  have T1 := ruint_T h
  have hlt := uS_lt l fail h.lt
  have h2 := h.step (l2 := (uS l fail).2.1) (uS l fail).2.2 (uS_suf l fail)
  have hsl := (uS_suf l fail).length_le
  have hln := h.len
  have hp : ∀ c1 c2, (H.put p c1).put p c2 = H.put p c2 := fun c1 c2 => put_put _ _ _ _
  unfold countS
  obtain ⟨u, hu⟩ : ∃ u, u = (uS l fail).1 := ⟨_, rfl⟩
  obtain ⟨l2, hl2⟩ : ∃ l2, l2 = (uS l fail).2.1 := ⟨_, rfl⟩
  obtain ⟨f, hf⟩ : ∃ f, f = (uS l fail).2.2 := ⟨_, rfl⟩
  have hup : uS l fail = (u, l2, f) := by rw [hu, hl2, hf]
  rw [hup] at T1 ⊢
  rw [← hl2, ← hf] at h2
  rw [← hu] at hlt
  rw [← hl2] at hsl
  simp only at T1 ⊢
  have T2 := left_S h2
  obtain ⟨v3, T3⟩ := stop_T h2.rd 20
  rw [hp] at T3
  obtain ⟨m, hm'⟩ : ∃ m, m = leftN l2 f := ⟨_, rfl⟩
  have hml : m ≤ 140737488355328 := by
    rw [hm']; unfold leftN; split
    · omega
    · exact Nat.zero_le _
  have em : (if f = 0 then l2.length else 0 : Nat) = m := by rw [hm']; rfl
  rw [em] at T2
  rw [← hm']
  obtain ⟨k, hk⟩ : ∃ k, k = atLeast least := ⟨_, rfl⟩
  have hk0 : k ≠ 0 := by rw [hk]; unfold atLeast; split <;> omega
  have hkl : k ≤ 9223372036854775807 := by rw [hk]; unfold atLeast; unfold okI2 at hle; split <;> omega
  rw [← hk]
  have c1 : IntKind.u64.wrap (m : Int) = (m : Int) := wu64 _ (by omega)
  have c2 : IntKind.u64.wrap (k : Int) = (k : Int) := wu64 _ (by omega)
  have q := quo_u64 m k hk0 (by omega)
  obtain ⟨d, hd⟩ : ∃ d, d = m / k := ⟨_, rfl⟩
  have hdl : d ≤ 140737488355328 := by rw [hd]; exact Nat.le_trans (Nat.div_le_self _ _) hml
  rw [← hd] at q ⊢
  have hmax : (if least < 1 then (1 : Int) else least) = (k : Int) := by
    rw [hk]; unfold atLeast; split
    · rfl
    · omega
  obtain ⟨G, hG⟩ : ∃ G, G = H.put p (rsC x b l2 f) := ⟨_, rfl⟩
  rw [← hG] at T1 T2 T3
  by_cases hdu : d < u
  · rw [if_pos hdu]
    simp only
    simp [L38]
    refine goT_of T1 ?_
    simp
    refine goT_of T2 ?_
    simp [c1, hmax, c2, q, hdu]
    refine goT_of T3 ?_
    simp
  · rw [if_neg hdu]
    simp only
    rw [← hG]
    have c3 : IntKind.i64.wrap (u : Int) = (u : Int) := w64 _ (by omega)
    simp [L38]
    refine goT_of T1 ?_
    simp
    refine goT_of T2 ?_
    simp [c1, hmax, c2, q, hdu, c3]
/-- The document's reader as a value. -/
abbrev dR (x : Value) (f : Nat) : Value := .agg #[x, .int .i64 (f : Int)]
/-- A variable of two cells. -/
structure Two (H : Heap) (p : Nat) (a b : Value) : Prop where
  hp : ¬ p < H.B
  bp : H.blk p = some ⟨80, 2, [a, b]⟩
theorem Two.mk' {H : Heap} (hw : H.WF) (a b : Value) : Two (H.new 80 2 [a, b]) H.next a b := ⟨by simpa using hw.next_ge, by simp⟩
theorem Two.new {H : Heap} (hw : H.WF) {p : Nat} {a b : Value} (h : Two H p a b) (ty sz : Nat) (c : List Value) : Two (H.new ty sz c) p a b :=
  ⟨by simpa using h.hp, by have := hw.lt h.bp; simp [show p ≠ H.next by omega, h.bp]⟩
theorem Two.put {H : Heap} {p : Nat} {a b : Value} (h : Two H p a b) (c d : Value) : Two (H.put p [c, d]) p c d := ⟨by simpa using h.hp, by simp [h.bp]⟩
theorem Two.beside {H : Heap} {p : Nat} {a b : Value} (h : Two H p a b) {q : Nat} (hq : p ≠ q) (cs : List Value) : Two (H.put q cs) p a b := ⟨by simpa using h.hp, by simp [hq, h.bp]⟩
theorem Two.load {H : Heap} {p : Nat} {a b : Value} (h : Two H p a b) (j : Nat) : H.load ⟨p, j, none⟩ = [a, b][j]? := load_at h.hp h.bp
theorem Two.loadA {H : Heap} {p : Nat} {a b : Value} (h : Two H p a b) : H.loadN ⟨p, 0, none⟩ 0 2 = some [a, b] := by
  rw [loadN_at h.hp h.bp (by simp)]; rfl
theorem Two.store {H : Heap} {p : Nat} {a b : Value} (h : Two H p a b) (j : Nat) (v : Value) (hj : j < 2) : H.store ⟨p, j, none⟩ v = some (H.put p ([a, b].set j v)) := by
  rw [store_own h.hp h.bp, if_pos (by simpa using hj)]
theorem Two.storeA {H : Heap} {p : Nat} {a b : Value} (h : Two H p a b) (c d : Value) : sStore H 2 (.pointer (some ⟨p, 0, none⟩)) (.agg #[c, d]) = some (H.put p [c, d]) := by
  have := sStore_agg H ⟨p, 0, none⟩ 2 [c, d] rfl (by decide)
  rw [show (#[c, d] : Array Value) = [c, d].toArray from rfl, this, storeN_at h.hp h.bp (by simp)]
  rfl
theorem Two.keep {H H' : Heap} {p : Nat} {a b : Value} (h : Two H p a b) (hb : H'.base = H.base) (hk : H'.blk p = H.blk p) : Two H' p a b := ⟨by rw [B_eq hb]; exact h.hp, by rw [hk]; exact h.bp⟩
theorem Bs.from' {H : Heap} {x : Value} {l : List Nat} (h : Bs H x l) (lo : Nat) (h1 : lo ≤ l.length) :
    ∃ y, sSlice 1 x (some (.int .i64 (lo : Int))) none none = some y ∧ Bs H y (l.drop lo) := by
  by_cases h0 : 0 < l.length
  · obtain ⟨_, _, a, c, h2, h3⟩ := h.part lo l.length h1 (Nat.le_refl _) h0
    exact ⟨_, h2, h3⟩
  · have e : lo = 0 := by omega
    subst e
    have e2 : l = [] := List.length_eq_zero_iff.1 (by omega)
    subst e2
    rcases h with ⟨rfl, _⟩ | ⟨b, off, c, rfl, h⟩
    · exact ⟨.slice none 0 0, by simp [sSlice, bnd], .inl ⟨rfl, rfl⟩⟩
    · refine ⟨_, by simp [sSlice, bnd, add_own]; rfl, .inr ⟨b, off, _, rfl, fun i hi => absurd hi (by simp)⟩⟩
theorem Bs.lenL {H : Heap} {x : Value} {l : List Nat} (h : Bs H x l) : sLenL x = some (.int .i64 (l.length : Int)) := by
  obtain ⟨a, c, rfl⟩ := h.len
  rfl
/-- A later heap: what was there stands as it stood. -/
structure Xt (H0 H : Heap) : Prop where
  base : H.base = H0.base
  next : H0.next ≤ H.next
  wf0 : H0.WF
  wf : H.WF
  old : ∀ b, b < H0.next → H.blk b = H0.blk b
theorem Xt.refl {H : Heap} (hw : H.WF) : Xt H H := ⟨rfl, Nat.le_refl _, hw, hw, fun _ _ => rfl⟩
theorem Xt.trans {H0 H H2 : Heap} (h : Xt H0 H) (g : Xt H H2) : Xt H0 H2 := ⟨g.base.trans h.base, Nat.le_trans h.next g.next, h.wf0, g.wf, fun b hb => (g.old b (Nat.lt_of_lt_of_le hb h.next)).trans (h.old b hb)⟩
theorem Xt.new {H0 H : Heap} (h : Xt H0 H) (ty sz : Nat) (c : List Value) : Xt H0 (H.new ty sz c) :=
  ⟨h.base, Nat.le_trans h.next (by simp), h.wf0, WF_new h.wf _ _ _, fun b hb => by have := h.next; simp [show b ≠ H.next by omega, h.old b hb]⟩
theorem Xt.put {H0 H : Heap} (h : Xt H0 H) {p : Nat} (hp : H0.next ≤ p) (c : List Value) : Xt H0 (H.put p c) :=
  ⟨by simpa using h.base, by simpa using h.next, h.wf0, WF_put h.wf _ _, fun b hb => by simp [show b ≠ p by omega, h.old b hb]⟩
theorem Xt.call {H0 H H' : Heap} (h : Xt H0 H) {f : FuncId} {args : List Value} {v : Value} (hT : T Try.prog f args H v H') (hs : Same H H' []) : Xt H0 H' :=
  ⟨hT.1.trans h.base, Nat.le_trans h.next hT.grow.next, h.wf0, hT.grow.wf h.wf, fun b hb => (hs b (Nat.lt_of_lt_of_le hb h.next) (by simp)).trans (h.old b hb)⟩
theorem Xt.same {H0 H : Heap} (h : Xt H0 H) : Same H0 H [] := fun b hb _ => h.old b hb
theorem Xt.bs {H0 H : Heap} (h : Xt H0 H) {x : Value} {l : List Nat} (hx : Bs H0 x l) : Bs H x l := hx.keep h.wf0 h.base h.old
theorem Xt.two {H0 H : Heap} (h : Xt H0 H) {p : Nat} {a b : Value} (hx : Two H0 p a b) : Two H p a b := hx.keep h.base (h.old p (h.wf0.lt hx.bp))
theorem byteR_T {H0 H : Heap} (hX : Xt H0 H) {xr : Value} {l : List Nat} (hx0 : Bs H0 xr l) (fail : Nat) :
    ∃ v H', T Try.prog 53 [dR xr fail] H v H' ∧ ∃ xr', v = .tuple #[dR xr' (nxS l fail).2.2, .int .u8 ((nxS l fail).1 : Int)] ∧ Bs H0 xr' (nxS l fail).2.1 ∧ Same H H' [] := by
  refine T_by hm light53 ?_
  have hw := hX.wf
  have hx := hX.bs hx0
  obtain ⟨H1, hH1⟩ : ∃ H1, H1 = H.new 80 2 [xr, .int .i64 (fail : Int)] := ⟨_, rfl⟩
  have w1 : H1.WF := by rw [hH1]; exact WF_new hw _ _ _
  have n1 : H1.next = H.next + 1 := by rw [hH1]; rfl
  have v1 : Two H1 H.next xr (.int .i64 (fail : Int)) := by rw [hH1]; exact Two.mk' hw _ _
  have k1 : ∀ b, b < H.next → H1.blk b = H.blk b := fun b hb => by rw [hH1]; simp [show b ≠ H.next by omega]
  obtain ⟨H2, hH2⟩ : ∃ H2, H2 = H1.new 80 2 [.slice none 0 0, .int .i64 0] := ⟨_, rfl⟩
  have w2 : H2.WF := by rw [hH2]; exact WF_new w1 _ _ _
  have v2 : Two H2 H.next xr (.int .i64 (fail : Int)) := by rw [hH2]; exact v1.new w1 _ _ _
  have r2 : Two H2 H1.next (.slice none 0 0) (.int .i64 0) := by rw [hH2]; exact Two.mk' w1 _ _
  have k2 : ∀ b, b < H.next → H2.blk b = H.blk b := fun b hb => by rw [hH2]; simp [show b ≠ H1.next by omega]; exact k1 b hb
  have b2 : H2.base = H.base := by rw [hH2, hH1]; rfl
  have bs2 : Bs H2 xr l := hx.keep hw b2 k2
  rw [n1] at r2
  have ld := v2.load
  have ne : H.next + 1 ≠ H.next := by omega
  have hN : (H.new 80 2 [xr, .int .i64 (fail : Int)]).new 80 2 [.slice none 0 0, .int .i64 0] = H2 := by rw [hH2, hH1]
  have sm : ∀ cs, Same H (H2.put (H.next + 1) cs) [] := fun cs b hb _ => by simp [show b ≠ H.next + 1 by omega]; exact k2 b hb
  have sm2 : ∀ c1 cs, Same H ((H2.put H.next c1).put (H.next + 1) cs) [] := fun c1 cs b hb _ => by simp [show b ≠ H.next + 1 by omega, show b ≠ H.next by omega]; exact k2 b hb
  by_cases hf : fail = 0
  case neg =>
    have e : nxS l fail = (0, l, fail) := by simp [nxS, hf]
    rw [e]
    have la := v2.loadA
    have sa := r2.storeA xr (.int .i64 (fail : Int))
    have ra := (r2.put xr (.int .i64 (fail : Int))).loadA
    simp [L53, hN, ld, hf, la, sa, ra]
    exact ⟨hx0, sm _⟩
  subst hf
  have hN0 : (H.new 80 2 [xr, .int .i64 0]).new 80 2 [.slice none 0 0, .int .i64 0] = H2 := hN
  have hlx := hx.lenL
  cases l with
  | nil =>
    have e : nxS [] 0 = (0, [], 20) := rfl
    rw [e]
    have st := v2.store 1 (.int .i64 20) (by decide)
    simp only [List.set_cons_succ, List.set_cons_zero] at st
    have v3 := v2.put xr (.int .i64 20)
    have la := v3.loadA
    have r3 := r2.beside ne [xr, .int .i64 20]
    have sa := r3.storeA xr (.int .i64 20)
    have ra := (r3.put xr (.int .i64 20)).loadA
    simp [L53, hN0, ld, hlx, st, la, sa, ra]
    exact ⟨hx0, sm2 _ _⟩
  | cons c l =>
    have e : nxS (c :: l) 0 = (c, l, 0) := rfl
    rw [e]
    obtain ⟨y, hy, by'⟩ := hx0.from' 1 (by simp)
    have hy' : sSlice 1 xr (some (.int .i64 1)) none none = some y := hy
    obtain ⟨b, off, c', hxb, ldc⟩ := bs2.at (i := 0) (by simp)
    have hix : sIdx 1 xr (.int .i64 0) = some (.pointer (some ⟨b, off, none⟩)) := by rw [hxb]; simp
    have st := v2.store 0 y (by decide)
    simp only [List.set_cons_zero] at st
    have v3 := v2.put y (.int .i64 0)
    have la := v3.loadA
    have r3 := r2.beside ne [y, .int .i64 0]
    have sa := r3.storeA y (.int .i64 0)
    have ra := (r3.put y (.int .i64 0)).loadA
    have hl0 : ¬ ((l.length : Int) + 1 = 0) := by omega
    simp only [List.getElem_cons_zero, Nat.add_zero] at ldc
    obtain ⟨ya, yc, hyy⟩ := by'.len
    have st1 : sStore H2 1 (.pointer (some ⟨H.next, 0, none⟩)) y = some (H2.put H.next [y, .int .i64 0]) := by
      have := st
      rw [hyy] at this ⊢
      simpa using this
    simp [L53, hN0, ld, hlx, hl0, hy', hix, ldc, st1, la, sa, ra]
    exact ⟨by', sm2 _ _⟩
/-- A reader taken on: the answer is its own, and the rows are the old ones. -/
theorem dr_one (x : Value) (f : Nat) : dR x f = .agg [x, .int .i64 (f : Int)].toArray := rfl
def InvTU (H0 H : Heap) (pa : Nat) (want : Nat × List Nat × Nat) (k : Nat) (t : Tm) (H1 : Heap) : Prop :=
  ∃ (i a : Nat) (l : List Nat) (xr c d : Value), i + (k + 1) = 10 ∧ t 1 = ptr pa ∧ t 2 = ptr (pa + 1) ∧ t 4 = .int .u64 (a : Int) ∧ t 5 = .int .u64 ((2 ^ (7 * i) : Nat) : Int) ∧ t 6 = .int .i64 (i : Int) ∧ a < 2 ^ (7 * i) ∧
    Xt H H1 ∧ Two H1 pa xr (.int .i64 0) ∧ Two H1 (pa + 1) c d ∧ Bs H0 xr l ∧ (∀ c ∈ l, c < 256) ∧ tu (k + 1) i a l = want
theorem uintR2_T {H0 H : Heap} (hX : Xt H0 H) {xr : Value} {l : List Nat} (hx0 : Bs H0 xr l) (hlt : ∀ c ∈ l, c < 256) (fail : Nat) :
    ∃ v H', T Try.prog 50 [dR xr fail] H v H' ∧ ∃ xr', v = .tuple #[dR xr' (uS l fail).2.2, .int .u64 ((uS l fail).1 : Int)] ∧ Bs H0 xr' (uS l fail).2.1 ∧ Same H H' [] := by
  refine T_by hm light50 ?_
  have hw := hX.wf
  obtain ⟨H1, hH1⟩ : ∃ H1, H1 = H.new 80 2 [xr, .int .i64 (fail : Int)] := ⟨_, rfl⟩
  have X1 : Xt H H1 := by rw [hH1]; exact (Xt.refl hw).new _ _ _
  have n1 : H1.next = H.next + 1 := by rw [hH1]; rfl
  have v1 : Two H1 H.next xr (.int .i64 (fail : Int)) := by rw [hH1]; exact Two.mk' hw _ _
  obtain ⟨H2, hH2⟩ : ∃ H2, H2 = H1.new 80 2 [.slice none 0 0, .int .i64 0] := ⟨_, rfl⟩
  have X2 : Xt H H2 := by rw [hH2]; exact X1.new _ _ _
  have v2 : Two H2 H.next xr (.int .i64 (fail : Int)) := by rw [hH2]; exact v1.new X1.wf _ _ _
  have r2 : Two H2 H1.next (.slice none 0 0) (.int .i64 0) := by rw [hH2]; exact Two.mk' X1.wf _ _
  rw [n1] at r2
  have hN : (H.new 80 2 [xr, .int .i64 (fail : Int)]).new 80 2 [.slice none 0 0, .int .i64 0] = H2 := by rw [hH2, hH1]
  have ne : H.next + 1 ≠ H.next := by omega
  -- the end: the reader is put into the answer's place
  have fin : ∀ (G : Heap) (xr' c d : Value) (f' : Nat), Xt H G → Two G H.next xr' (.int .i64 (f' : Int)) → Two G (H.next + 1) c d →
      G.loadN ⟨H.next, 0, none⟩ 0 2 = some [xr', .int .i64 (f' : Int)] ∧ sStore G 2 (.pointer (some ⟨H.next + 1, 0, none⟩)) (.agg #[xr', .int .i64 (f' : Int)]) = some (G.put (H.next + 1) [xr', .int .i64 (f' : Int)]) ∧
      (G.put (H.next + 1) [xr', .int .i64 (f' : Int)]).loadN ⟨H.next + 1, 0, none⟩ 0 2 = some [xr', .int .i64 (f' : Int)] ∧ Same H (G.put (H.next + 1) [xr', .int .i64 (f' : Int)]) [] :=
    fun G xr' c d f' hG h1 h2 => ⟨h1.loadA, h2.storeA _ _, (h2.put _ _).loadA, (hG.put (Nat.le_succ _) _).same⟩
  by_cases hf : fail = 0
  case neg =>
    have e : uS l fail = (0, l, fail) := by simp [uS, hf]
    rw [e]
    obtain ⟨la, sa, ra, sm⟩ := fin H2 xr _ _ fail X2 v2 r2
    have ld := v2.load
    simp [L50, hN]
    refine loop_at (fun (k : Nat) (t : Tm) (G : Heap) => t 1 = ptr H.next ∧ t 2 = ptr (H.next + 1) ∧ G = H2) 10 ?_ ?_
    · simp
    · rintro k t G ⟨t1, t2, rfl⟩
      simp [L50_1, t1, t2, ld, hf, la, sa, ra]
      exact ⟨hx0, sm⟩
  subst hf
  have e : uS l 0 = tu 10 0 0 l := by simp [uS]
  rw [e]
  obtain ⟨want, hwant⟩ : ∃ want, want = tu 10 0 0 l := ⟨_, rfl⟩
  rw [← hwant]
  have hN0 : (H.new 80 2 [xr, .int .i64 0]).new 80 2 [.slice none 0 0, .int .i64 0] = H2 := hN
  simp [L50, hN0]
  refine loop_at (InvTU H0 H H.next want) 9 ?_ ?_
  · exact ⟨0, 0, l, xr, _, _, rfl, by simp, by simp, by simp, by simp, by simp, by simp, X2, v2, r2, hx0, hlt, hwant.symm⟩
  · rintro k t G ⟨i, a, l, xr, c0, d0, hik, t1, t2, t4, t5, t6, ha, XG, vG, rG, bG, hlt, htu⟩
    have hi : i < 10 := by omega
    have ldG := vG.load
    have laG := vG.loadA
    obtain ⟨v3, G2, T3, xr', rfl, b', s3⟩ := byteR_T (hX.trans XG) bG 0
    have X2' := XG.call T3 s3
    have v3' : Two G2 H.next xr (.int .i64 0) := vG.keep T3.1 (s3 _ (XG.wf.lt vG.bp) (by simp))
    have r3' : Two G2 (H.next + 1) c0 d0 := rG.keep T3.1 (s3 _ (XG.wf.lt rG.bp) (by simp))
    cases l with
    | nil =>
      simp only [tu] at htu
      subst htu
      have e1 : nxS [] 0 = (0, [], 20) := rfl
      rw [e1] at T3 b'
      change T Try.prog 53 _ _ (.tuple #[.agg #[xr', .int .i64 20], .int .u8 0]) _ at T3
      have sa3 := v3'.storeA xr' (.int .i64 20)
      have v4 := v3'.put xr' (.int .i64 20)
      have ld4 := v4.load
      obtain ⟨la, sa, ra, sm⟩ := fin _ xr' _ _ 20 (X2'.put (Nat.le_refl _) [xr', .int .i64 20]) v4 (r3'.beside ne _)
      have la' : (G2.put H.next [xr', .int .i64 20]).loadN ⟨H.next, 0, none⟩ 0 2 = some [xr', .int .i64 20] := la
      obtain ⟨G4, hG4⟩ : ∃ G4, G4 = G2.put H.next [xr', .int .i64 20] := ⟨_, rfl⟩
      have sa' : sStore G4 2 (.pointer (some ⟨H.next + 1, 0, none⟩)) (.agg #[xr', .int .i64 20]) = some (G4.put (H.next + 1) [xr', .int .i64 20]) := by rw [hG4]; exact sa
      have ra' : (G4.put (H.next + 1) [xr', .int .i64 20]).loadN ⟨H.next + 1, 0, none⟩ 0 2 = some [xr', .int .i64 20] := by rw [hG4]; exact ra
      have sm' : Same H (G4.put (H.next + 1) [xr', .int .i64 20]) [] := by rw [hG4]; exact sm
      rw [← hG4] at sa3 ld4 la'
      simp [L50_1, t1, t2, t6, ldG, laG]
      refine goT_of T3 ?_
      simp [t1, t2, sa3, ld4, la', sa', ra']
      exact ⟨b', sm'⟩
    | cons c l =>
      have e1 : nxS (c :: l) 0 = (c, l, 0) := rfl
      rw [e1] at T3 b'
      simp only at b'
      change T Try.prog 53 _ _ (.tuple #[.agg #[xr', .int .i64 0], .int .u8 (c : Int)]) _ at T3
      have hc := hlt c (by simp)
      obtain ⟨U, hU, U0, U8, U9⟩ := units i (by omega)
      simp only [tu] at htu
      obtain ⟨m, hmm⟩ : ∃ m, m = c % 128 := ⟨_, rfl⟩
      rw [← hU, ← hmm] at htu
      rw [← hU] at ha t5
      have sa3 : sStore G2 2 (.pointer (some ⟨H.next, 0, none⟩)) (.agg #[xr', .int .i64 0]) = some (G2.put H.next [xr', .int .i64 0]) := v3'.storeA xr' (.int .i64 0)
      have v4 := v3'.put xr' (.int .i64 0)
      have r4 := r3'.beside ne [xr', .int .i64 0]
      have X4 := X2'.put (Nat.le_refl _) [xr', .int .i64 0]
      obtain ⟨G4, hG4⟩ : ∃ G4, G4 = G2.put H.next [xr', .int .i64 0] := ⟨_, rfl⟩
      rw [← hG4] at sa3 v4 r4 X4
      have ld4 := v4.load
      by_cases hbad : (0 < i ∧ c = 0) ∨ (i = 9 ∧ 1 < c)
      · rw [if_pos hbad] at htu
        subst htu
        have st4 := v4.store 1 (.int .i64 21) (by decide)
        simp only [List.set_cons_succ, List.set_cons_zero] at st4
        have v5 := v4.put xr' (.int .i64 21)
        obtain ⟨la, sa, ra, sm⟩ := fin _ xr' _ _ 21 (X4.put (Nat.le_refl _) [xr', .int .i64 21]) v5 (r4.beside ne _)
        obtain ⟨G5, hG5⟩ : ∃ G5, G5 = G4.put H.next [xr', .int .i64 21] := ⟨_, rfl⟩
        have la' : G5.loadN ⟨H.next, 0, none⟩ 0 2 = some [xr', .int .i64 21] := by rw [hG5]; exact la
        have sa' : sStore G5 2 (.pointer (some ⟨H.next + 1, 0, none⟩)) (.agg #[xr', .int .i64 21]) = some (G5.put (H.next + 1) [xr', .int .i64 21]) := by rw [hG5]; exact sa
        have ra' : (G5.put (H.next + 1) [xr', .int .i64 21]).loadN ⟨H.next + 1, 0, none⟩ 0 2 = some [xr', .int .i64 21] := by rw [hG5]; exact ra
        have sm' : Same H (G5.put (H.next + 1) [xr', .int .i64 21]) [] := by rw [hG5]; exact sm
        rw [← hG5] at st4
        simp [L50_1, t1, t2, t6, ldG, laG]
        refine goT_of T3 ?_
        rcases hbad with ⟨h1, h2⟩ | ⟨h1, h2⟩
        · subst h2
          simp [t1, t2, t6, sa3, ld4, h1, st4, la', sa', ra']
          exact ⟨b', sm'⟩
        · have e3 : ¬ c = 0 := by omega
          subst h1
          simp [t1, t2, t6, sa3, ld4, h2, e3, st4, la', sa', ra']
          exact ⟨b', sm'⟩
      · rw [if_neg hbad] at htu
        have f1 : i = 9 → c ≤ 1 := by intro h; omega
        have e1 := rem_nat .u8 c 128 (by decide)
        have e2 : IntKind.u64.wrap (m : Int) = (m : Int) := wu64 _ (by omega)
        obtain ⟨s, hs⟩ : ∃ s, s = m * U := ⟨_, rfl⟩
        have hs64 : s < 18446744073709551616 := by
          rw [hs]
          by_cases h9 : i = 9
          · have := f1 h9; rw [U9 h9]; omega
          · have := (U8 (by omega)).1
            have : m * U ≤ 127 * 72057594037927936 := Nat.mul_le_mul (by omega) this
            omega
        have has : a + s < 18446744073709551616 := by
          by_cases h9 : i = 9
          · have h1 := f1 h9
            have h2 := U9 h9
            have : m * U ≤ 1 * U := Nat.mul_le_mul_right _ (by omega)
            omega
          · have h1 := (U8 (by omega)).1
            have : m * U ≤ 127 * U := Nat.mul_le_mul_right _ (by omega)
            omega
        have e4 : IntKind.u64.wrap ((m : Int) * (U : Int)) = (s : Int) := by
          rw [show (m : Int) * (U : Int) = ((s : Nat) : Int) by rw [hs]; simp, wu64 _ (by omega)]
        have e5 : IntKind.u64.wrap ((a : Int) + (s : Int)) = ((a + s : Nat) : Int) := by rw [wu64 _ (by omega)]; omega
        have e7 : IntKind.i64.wrap ((i : Int) + 1) = ((i + 1 : Nat) : Int) := by rw [w64 _ (by omega)]; omega
        have g1 : 0 < i → ¬ c = 0 := fun h1 h2 => hbad (.inl ⟨h1, h2⟩)
        obtain ⟨i1, hi1⟩ : ∃ i1, i1 = i + 1 := ⟨_, rfl⟩
        obtain ⟨a1, ha1⟩ : ∃ a1, a1 = a + s := ⟨_, rfl⟩
        rw [← hmm] at e1
        rw [← hi1] at e7
        rw [← ha1] at e5
        rw [← hs, ← ha1] at htu
        have e1' : sBin .rem (.int .u8 (c : Int)) (.int .u8 128) = some (.int .u8 (m : Int)) := e1
        simp [L50_1, t1, t2, t6, ldG, laG]
        refine goT_of T3 ?_
        by_cases h128 : c < 128
        · rw [if_pos h128] at htu
          subst htu
          obtain ⟨la, sa, ra, sm⟩ := fin _ xr' _ _ 0 X4 v4 r4
          have la' : G4.loadN ⟨H.next, 0, none⟩ 0 2 = some [xr', .int .i64 0] := la
          have sa' : sStore G4 2 (.pointer (some ⟨H.next + 1, 0, none⟩)) (.agg #[xr', .int .i64 0]) = some (G4.put (H.next + 1) [xr', .int .i64 0]) := sa
          have ra' : (G4.put (H.next + 1) [xr', .int .i64 0]).loadN ⟨H.next + 1, 0, none⟩ 0 2 = some [xr', .int .i64 0] := ra
          by_cases hi0 : i = 0
          · have g5 : ¬ 0 < i := by omega
            have h9 : ¬ i = 9 := by omega
            simp [t1, t2, t4, t5, t6, sa3, ld4, g5, h9, e1', e2, e4, e5, h128, la', sa', ra']
            exact ⟨b', sm⟩
          · have g5 : 0 < i := by omega
            have hc0 : ¬ c = 0 := g1 g5
            by_cases h9 : i = 9
            · have := f1 h9
              have g7 : ¬ 1 < c := by omega
              have h9d : decide (i = 9) = true := by simp [h9]
              simp [t1, t2, t4, t5, t6, sa3, ld4, g5, hc0, g7, h9d, e1', e2, e4, e5, h128, la', sa', ra']
              exact ⟨b', sm⟩
            · simp [t1, t2, t4, t5, t6, sa3, ld4, g5, hc0, h9, e1', e2, e4, e5, h128, la', sa', ra']
              exact ⟨b', sm⟩
        · rw [if_neg h128] at htu
          have h9 : ¬ i = 9 := fun h => by have := f1 h; omega
          have hc0 : ¬ c = 0 := by omega
          obtain ⟨U2, hU2⟩ : ∃ U2, U2 = U * 128 := ⟨_, rfl⟩
          have e8 : IntKind.u64.wrap ((U : Int) * 128) = ((U2 : Nat) : Int) := by
            have := (U8 (by omega)).1
            rw [wu64 _ (by omega)]; omega
          have hp2 : 2 ^ (7 * i1) = U2 := by rw [hi1, (U8 (by omega)).2, hU2]
          have hfin : a1 < 2 ^ (7 * i1) := by
            rw [hp2, hU2, ha1, hs]
            have : m * U ≤ 127 * U := Nat.mul_le_mul_right _ (by omega)
            omega
          cases k with
          | zero => omega
          | succ k =>
            by_cases hi0 : i = 0
            · have g5 : ¬ 0 < i := by omega
              simp [t1, t2, t4, t5, t6, sa3, ld4, g5, h9, e1', e2, e4, e5, h128, e8, e7]
              exact ⟨k, Nat.lt_succ_self k, i1, a1, l, xr', c0, d0, by omega, by simp [t1], by simp [t2], by simp, by simp [hp2], by simp, hfin, X4, v4, r4, b', fun c hc => hlt c (by simp [hc]), by rw [hi1]; exact htu⟩
            · have g5 : 0 < i := by omega
              simp [t1, t2, t4, t5, t6, sa3, ld4, g5, hc0, h9, e1', e2, e4, e5, h128, e8, e7]
              exact ⟨k, Nat.lt_succ_self k, i1, a1, l, xr', c0, d0, by omega, by simp [t1], by simp [t2], by simp, by simp [hp2], by simp, hfin, X4, v4, r4, b', fun c hc => hlt c (by simp [hc]), by rw [hi1]; exact htu⟩
theorem setR {H : Heap} (hw : H.WF) (x fv : Value) : ∃ H2, (H.new 80 2 [x, fv]).new 80 2 [.slice none 0 0, .int .i64 0] = H2 ∧ Xt H H2 ∧ Two H2 H.next x fv ∧ Two H2 (H.next + 1) (.slice none 0 0) (.int .i64 0) := by
  refine ⟨_, rfl, ((Xt.refl hw).new _ _ _).new _ _ _, (Two.mk' hw _ _).new (WF_new hw _ _ _) _ _ _, ?_⟩
  exact Two.mk' (WF_new hw _ _ _) _ _
theorem aftR {H H2 H3 : Heap} {f : FuncId} {args : List Value} {v a b c d : Value} (X2 : Xt H H2) (v2 : Two H2 H.next a b) (r2 : Two H2 (H.next + 1) c d) (hT : T Try.prog f args H2 v H3) (s : Same H2 H3 []) (x' fv : Value) :
    ∃ H4, sStore H3 2 (ptr H.next) (.agg #[x', fv]) = some H4 ∧ Xt H H4 ∧ Two H4 H.next x' fv ∧ Two H4 (H.next + 1) c d := by
  have X3 := X2.call hT s
  have v3 : Two H3 H.next a b := v2.keep hT.1 (s _ (X2.wf.lt v2.bp) (by simp))
  have r3 : Two H3 (H.next + 1) c d := r2.keep hT.1 (s _ (X2.wf.lt r2.bp) (by simp))
  exact ⟨_, v3.storeA _ _, X3.put (Nat.le_refl _) _, v3.put _ _, r3.beside (by omega) _⟩
theorem finR {H G : Heap} {x' fv c d : Value} (hG : Xt H G) (h1 : Two G H.next x' fv) (h2 : Two G (H.next + 1) c d) :
    ∃ G', G.loadN ⟨H.next, 0, none⟩ 0 2 = some [x', fv] ∧ sStore G 2 (ptr (H.next + 1)) (.agg #[x', fv]) = some G' ∧ G'.loadN ⟨H.next + 1, 0, none⟩ 0 2 = some [x', fv] ∧ Same H G' [] :=
  ⟨_, h1.loadA, h2.storeA _ _, (h2.put _ _).loadA, (hG.put (Nat.le_succ _) _).same⟩
theorem intR2_T {H0 H : Heap} (hX : Xt H0 H) {xr : Value} {l : List Nat} (hx0 : Bs H0 xr l) (hlt : ∀ c ∈ l, c < 256) (fail : Nat) :
    ∃ v H', T Try.prog 51 [dR xr fail] H v H' ∧ ∃ xr', v = .tuple #[dR xr' (iS l fail).2.2, .int .i64 (iS l fail).1] ∧ Bs H0 xr' (iS l fail).2.1 ∧ Same H H' [] := by
  refine T_by hm light51 ?_
  obtain ⟨H2, hN, X2, v2, r2⟩ := setR hX.wf xr (.int .i64 (fail : Int))
  have la2 := v2.loadA
  obtain ⟨v3, H3, T3, xr', rfl, b', s3⟩ := uintR2_T (hX.trans X2) hx0 hlt fail
  have hlt3 := uS_lt l fail hlt
  unfold iS
  obtain ⟨u, hu⟩ : ∃ u, u = (uS l fail).1 := ⟨_, rfl⟩
  obtain ⟨fv, hfv⟩ : ∃ fv : Value, fv = .int .i64 ((uS l fail).2.2 : Int) := ⟨_, rfl⟩
  obtain ⟨l2, hl2⟩ : ∃ l2, l2 = (uS l fail).2.1 := ⟨_, rfl⟩
  simp only [dR]
  simp only [dR] at T3
  rw [← hu, ← hfv] at T3 ⊢
  rw [← hl2] at b' ⊢
  rw [← hu] at hlt3
  obtain ⟨H4, sa, X4, v4, r4⟩ := aftR X2 v2 r2 T3 s3 xr' fv
  obtain ⟨H5, la, sb, lb, sm⟩ := finR X4 v4 r4
  have e1 : sBin .rem (.int .u64 (u : Int)) (.int .u64 2) = some (.int .u64 ((u % 2 : Nat) : Int)) := rem_nat .u64 u 2 (by decide)
  have e2 : sBin .quo (.int .u64 (u : Int)) (.int .u64 2) = some (.int .u64 ((u / 2 : Nat) : Int)) := quo_u64 u 2 (by decide) hlt3
  obtain ⟨s, hs⟩ : ∃ s, s = u / 2 := ⟨_, rfl⟩
  have e3 : IntKind.i64.wrap (s : Int) = (s : Int) := w64 _ (by omega)
  have e4 : IntKind.i64.wrap (-(s : Int)) = -(s : Int) := w64 _ (by omega)
  have e5 : IntKind.i64.wrap (-(s : Int) - 1) = -(s : Int) - 1 := w64 _ (by omega)
  rw [← hs] at e2
  unfold unzz
  rw [← hs]
  by_cases hz : u % 2 = 0
  · rw [hz] at e1
    rw [if_pos hz]
    simp [L51, hN, la2]
    refine goT_of T3 ?_
    simp [sa, e1, e2, e3, la, sb, lb]
    exact ⟨b', sm⟩
  · have hz1 : u % 2 = 1 := by omega
    rw [hz1] at e1
    rw [if_neg hz]
    simp [L51, hN, la2]
    refine goT_of T3 ?_
    simp [sa, e1, e2, e3, e4, e5, la, sb, lb]
    exact ⟨b', sm⟩
theorem quo_i64 (a b : Nat) (hb : b ≠ 0) (ha : a < 9223372036854775808) : sBin .quo (.int .i64 (a : Int)) (.int .i64 (b : Int)) = some (.int .i64 ((a / b : Nat) : Int)) := by
  have h : a / b ≤ a := Nat.div_le_self _ _
  rw [sBin_quo, if_neg (by omega), Int.tdiv_eq_ediv_of_nonneg (by omega), show (a : Int) / (b : Int) = ((a / b : Nat) : Int) from rfl]
  generalize a / b = q at h ⊢
  rw [w64 _ (by omega)]
theorem Bs.upto' {H : Heap} {x : Value} {l : List Nat} (h : Bs H x l) (hi : Nat) (h1 : hi ≤ l.length) :
    ∃ y, sSlice 1 x none (some (.int .i64 (hi : Int))) none = some y ∧ Bs H y (l.take hi) := by
  by_cases h0 : 0 < l.length
  · obtain ⟨_, ⟨a, c, h2, h3⟩, _⟩ := h.part hi hi (Nat.le_refl _) h1 h0
    exact ⟨_, h2, h3⟩
  · have e : hi = 0 := by omega
    subst e
    have e2 : l = [] := List.length_eq_zero_iff.1 (by omega)
    subst e2
    rcases h with ⟨rfl, _⟩ | ⟨b, off, c, rfl, h⟩
    · exact ⟨.slice none 0 0, by simp [sSlice, bnd], .inl ⟨rfl, rfl⟩⟩
    · refine ⟨_, by simp [sSlice, bnd, add_own]; rfl, .inr ⟨b, off, _, rfl, fun i hi => absurd hi (by simp)⟩⟩
theorem countR2_T {H0 H : Heap} (hX : Xt H0 H) {xr : Value} {l : List Nat} (hx0 : Bs H0 xr l) (hlt : ∀ c ∈ l, c < 256) (hlen : l.length ≤ 140737488355328) (fail : Nat) (least : Int) (hle : okI2 least) :
    ∃ v H', T Try.prog 43 [dR xr fail, .int .i64 least] H v H' ∧ ∃ xr', v = .tuple #[dR xr' (countS l fail least).2.2, .int .i64 ((countS l fail least).1 : Int)] ∧ Bs H0 xr' (countS l fail least).2.1 ∧ Same H H' [] := by
  refine T_by hm light43 ?_
  obtain ⟨H2, hN, X2, v2, r2⟩ := setR hX.wf xr (.int .i64 (fail : Int))
  have la2 := v2.loadA
  obtain ⟨v3, H3, T3, xr', rfl, b', s3⟩ := uintR2_T (hX.trans X2) hx0 hlt fail
  have hlt3 := uS_lt l fail hlt
  have huf := uS_fail l fail
  have hsl := (uS_suf l fail).length_le
  unfold countS
  obtain ⟨u, hu⟩ : ∃ u, u = (uS l fail).1 := ⟨_, rfl⟩
  obtain ⟨l2, hl2⟩ : ∃ l2, l2 = (uS l fail).2.1 := ⟨_, rfl⟩
  obtain ⟨f, hf⟩ : ∃ f, f = (uS l fail).2.2 := ⟨_, rfl⟩
  have hup : uS l fail = (u, l2, f) := by rw [hu, hl2, hf]
  rw [← hu, ← hf] at huf
  rw [← hu] at hlt3
  rw [← hl2] at b' hsl
  rw [hup]
  rw [← hu, ← hf] at T3
  simp only [dR] at T3 ⊢
  obtain ⟨H4, sa, X4, v4, r4⟩ := aftR X2 v2 r2 T3 s3 xr' (.int .i64 (f : Int))
  have ld4 := v4.load
  have hln := b'.lenL
  obtain ⟨k, hk⟩ : ∃ k, k = atLeast least := ⟨_, rfl⟩
  have hk0 : k ≠ 0 := by rw [hk]; unfold atLeast; split <;> omega
  have hkl : (least < 1 ∧ k = 1) ∨ (¬ least < 1 ∧ least = (k : Int)) := by rw [hk]; unfold atLeast; split <;> omega
  rw [← hk]
  obtain ⟨m, hm'⟩ : ∃ m, m = l2.length := ⟨_, rfl⟩
  rw [← hm'] at hln
  have q := quo_i64 m k hk0 (by omega)
  obtain ⟨d, hd⟩ : ∃ d, d = m / k := ⟨_, rfl⟩
  have hdl : d ≤ 140737488355328 := by rw [hd]; exact Nat.le_trans (Nat.div_le_self _ _) (by omega)
  rw [← hd] at q
  have c1 : IntKind.u64.wrap (d : Int) = (d : Int) := wu64 _ (by omega)
  by_cases f0 : f = 0
  case neg =>
    have u0 := huf f0
    subst u0
    have hlt0 : ¬ leftN l2 f / k < 0 := Nat.not_lt_zero _
    rw [if_neg hlt0]
    simp only
    obtain ⟨H5, la, sb, lb, sm⟩ := finR X4 v4 r4
    rcases hkl with ⟨g, _⟩ | ⟨g, _⟩ <;>
    · simp [L43, hN, la2]
      refine goT_of T3 ?_
      simp [sa, ld4, f0, g, la, sb, lb]
      exact ⟨b', sm⟩
  subst f0
  have elf : leftN l2 0 = m := by simp [leftN, hm']
  have sa' : sStore H3 2 (ptr H.next) (.agg #[xr', .int .i64 0]) = some H4 := sa
  rw [elf, ← hd]
  by_cases hdu : d < u
  · rw [if_pos hdu]
    have st4 := v4.store 1 (.int .i64 20) (by decide)
    simp only [List.set_cons_succ, List.set_cons_zero] at st4
    have v5 := v4.put xr' (.int .i64 20)
    obtain ⟨H6, la, sb, lb, sm⟩ := finR (X4.put (Nat.le_refl _) [xr', .int .i64 20]) v5 (r4.beside (by omega) _)
    obtain ⟨H5, hH5⟩ : ∃ H5, H5 = H4.put H.next [xr', .int .i64 20] := ⟨_, rfl⟩
    rw [← hH5] at st4 la sb
    rcases hkl with ⟨g, gk⟩ | ⟨g, gk⟩
    · rw [gk] at q
      simp [L43, hN, la2]
      refine goT_of T3 ?_
      have q' : sBin .quo (.int .i64 (m : Int)) (.int .i64 1) = some (.int .i64 (d : Int)) := q
      simp [sa', ld4, g, hln, q', c1, hdu, st4, la, sb, lb]
      exact ⟨b', sm⟩
    · rw [← gk] at q
      simp [L43, hN, la2]
      refine goT_of T3 ?_
      simp [sa', ld4, g, hln, q, c1, hdu, st4, la, sb, lb]
      exact ⟨b', sm⟩
  · rw [if_neg hdu]
    obtain ⟨H5, la, sb, lb, sm⟩ := finR X4 v4 r4
    have la' : H4.loadN ⟨H.next, 0, none⟩ 0 2 = some [xr', .int .i64 0] := la
    have sb' : sStore H4 2 (ptr (H.next + 1)) (.agg #[xr', .int .i64 0]) = some H5 := sb
    have lb' : H5.loadN ⟨H.next + 1, 0, none⟩ 0 2 = some [xr', .int .i64 0] := lb
    have c3 : IntKind.i64.wrap (u : Int) = (u : Int) := w64 _ (by omega)
    rcases hkl with ⟨g, gk⟩ | ⟨g, gk⟩
    · rw [gk] at q
      simp [L43, hN, la2]
      refine goT_of T3 ?_
      have q' : sBin .quo (.int .i64 (m : Int)) (.int .i64 1) = some (.int .i64 (d : Int)) := q
      simp [sa', ld4, g, hln, q', c1, hdu, c3, la', sb', lb']
      exact ⟨b', sm⟩
    · rw [← gk] at q
      simp [L43, hN, la2]
      refine goT_of T3 ?_
      simp [sa', ld4, g, hln, q, c1, hdu, c3, la', sb', lb']
      exact ⟨b', sm⟩
theorem endR_T {H : Heap} (hw : H.WF) {xr : Value} {l : List Nat} (hx : Bs H xr l) (fail : Nat) : ∃ v H', T Try.prog 46 [dR xr fail] H v H' ∧ v = .int .i64 (endN l fail : Int) ∧ Same H H' [] := by
  refine T_by hm light46 ?_
  have v1 := Two.mk' hw xr (.int .i64 (fail : Int))
  have ld := v1.load
  have hln := hx.lenL
  have sm : Same H (H.new 80 2 [xr, .int .i64 (fail : Int)]) [] := ((Xt.refl hw).new _ _ _).same
  obtain ⟨H1, hH1⟩ : ∃ H1, H1 = H.new 80 2 [xr, .int .i64 (fail : Int)] := ⟨_, rfl⟩
  rw [← hH1] at ld sm
  unfold endN
  by_cases hf : fail = 0
  · subst hf
    have hN : H.new 80 2 [xr, .int .i64 0] = H1 := hH1.symm
    by_cases h1 : 0 < l.length
    · simp [L46, hN, ld, hln, h1, sm]
    · simp [L46, hN, ld, hln, h1, sm]
  · simp [L46, ← hH1, ld, hf, sm]
theorem Bs.slice {H : Heap} {x : Value} {l : List Nat} (h : Bs H x l) : ∃ a n c, x = .slice a n c := by
  obtain ⟨a, c, h⟩ := h.len
  exact ⟨a, _, c, h⟩
/-- A row of bytes is not the reader's own block. -/
theorem Bs.past {H H' : Heap} {p : Nat} {x xr : Value} {b l l0 : List Nat} {f : Nat} (h : Bs H xr l) (hr : RS H p x b l0 f) (hw : H.WF) (hb : H'.base = H.base) (hs : Same H H' [p]) : Bs H' xr l := by
  rcases h with h | ⟨c, off, cc, rfl, h⟩
  · exact .inl h
  · refine .inr ⟨c, off, cc, rfl, fun i hi => ?_⟩
    have h1 := h i hi
    have hlt := load_lt hw h1
    have hne : c ≠ p := by
      intro e
      subst e
      rw [load_at hr.rd.hp hr.rd.bp] at h1
      obtain ⟨a, n, c2, hx⟩ := hr.rd.bs.slice
      rw [hx] at h1
      match off + i, h1 with
      | 0, h1 => simp at h1
      | 1, h1 => simp at h1
      | 2, h1 => simp at h1
      | k + 3, h1 => simp at h1
    rw [load_off hb (hs c hlt (by simpa using hne))]
    exact h1
theorem Same.putp {H : Heap} (p : Nat) (cs : List Value) : Same H (H.put p cs) [p] := fun b _ hn => by
  have : b ≠ p := by simpa using hn
  simp [this]
theorem Bs.pastTwo {H H' : Heap} {q : Nat} {xr a : Value} {n : Int} {l : List Nat} (h : Bs H xr l) (hv : Two H q a (.int .i64 n)) (ha : ∃ z m c, a = .slice z m c) (hw : H.WF) (hb : H'.base = H.base) (hs : ∀ b, b < H.next → b ≠ q → H'.blk b = H.blk b) : Bs H' xr l := by
  rcases h with h | ⟨c, off, cc, rfl, h⟩
  · exact .inl h
  · refine .inr ⟨c, off, cc, rfl, fun i hi => ?_⟩
    have h1 := h i hi
    have hlt := load_lt hw h1
    have hne : c ≠ q := by
      intro e
      subst e
      rw [hv.load] at h1
      obtain ⟨z, m, c2, hx⟩ := ha
      rw [hx] at h1
      match off + i, h1 with
      | 0, h1 => simp at h1
      | 1, h1 => simp at h1
      | k + 2, h1 => simp at h1
    rw [load_off hb (hs c hlt hne)]
    exact h1
theorem tu_of : ∀ (k i a n : Nat) (r : List Nat), i + (k + 1) = 10 → n * 2 ^ (7 * i) < 18446744073709551616 → (0 < i → n ≠ 0) → tu (k + 1) i a (encU n ++ r) = (a + n * 2 ^ (7 * i), r, 0)
  | k, i, a, n, r, hik, hn, h0 => by
    obtain ⟨U, hU, U0, U8, U9⟩ := units i (by omega)
    rw [← hU] at hn ⊢
    have h9 : i = 9 → n ≤ 1 := by
      intro h
      have := U9 h
      rw [this] at hn
      omega
    by_cases hs : n < 128
    · rw [encU_small hs]
      simp only [List.singleton_append, tu]
      rw [if_neg (by intro h; rcases h with ⟨h1, h2⟩ | ⟨h1, h2⟩
                     · exact h0 h1 h2
                     · have := h9 h1; omega), if_pos hs, ← hU, Nat.mod_eq_of_lt hs]
    · rw [encU_big hs]
      simp only [List.cons_append, tu]
      rw [if_neg (by omega), if_neg (by omega)]
      cases k with
      | zero => have := h9 (by omega); omega
      | succ k =>
        have h8 : i ≤ 8 := by omega
        have e := (U8 h8).2
        have hdm : n % 128 + 128 * (n / 128) = n := Nat.mod_add_div n 128
        have hm : (n % 128 + 128) % 128 = n % 128 := by omega
        have hmul : n / 128 * (U * 128) = (128 * (n / 128)) * U := by rw [Nat.mul_comm U 128, ← Nat.mul_assoc, Nat.mul_comm (n / 128) 128]
        have hle : 128 * (n / 128) * U ≤ n * U := Nat.mul_le_mul_right _ (by omega)
        rw [tu_of k (i + 1) _ (n / 128) r (by omega) (by rw [e, hmul]; omega) (fun _ => by omega), e, ← hU, hm, hmul]
        congr 1
        rw [Nat.add_assoc, ← Nat.add_mul, hdm]
theorem uS_of {n : Nat} (hn : n < 18446744073709551616) (r : List Nat) : uS (encU n ++ r) 0 = (n, r, 0) := by
  have e : uS (encU n ++ r) 0 = tu 10 0 0 (encU n ++ r) := by simp [uS]
  rw [e, tu_of 9 0 0 n r rfl (by simpa using hn) (fun h => absurd h (by omega))]
  simp
theorem unzz_zz (n : Int) : unzz (zz n) = n := by
  unfold unzz zz
  split <;> split <;> omega
theorem iS_of {n : Int} (hn : -9223372036854775808 ≤ n ∧ n ≤ 9223372036854775807) (r : List Nat) : iS (encU (zz n) ++ r) 0 = (n, r, 0) := by
  unfold iS
  rw [uS_of (zz_lt hn)]
  simp only [unzz_zz]
theorem countS_of {n : Nat} {r : List Nat} (hn : n < 18446744073709551616) (h : n ≤ r.length) : countS (encU n ++ r) 0 1 = (n, r, 0) := by
  unfold countS
  rw [uS_of hn]
  have e : leftN r 0 / atLeast 1 = r.length := by simp [leftN, atLeast]
  simp only
  rw [e, if_neg (by omega)]
end Go.Proofs.Ytkocomnfomjfiaa
