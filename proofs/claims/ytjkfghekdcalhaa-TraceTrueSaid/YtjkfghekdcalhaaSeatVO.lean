/-
  Chapter 27: does the task of an age do just what was told: the loops. Chapter 27: does the task of an age do just what was told: the third loop. Chapter 27: does the task of an age do just what was told. Chapter 27: trace's same: does the task of an age do just what was told. Chapter 27: trace's same, told of the book.
-/
import Derived.Test.YtjkfghekdcalhaaSeatVL
namespace Go.Proofs.Ytjkfghekdcalhaa
open Go.Ot Go.RowKit
open R14 (ci)
set_option linter.unusedSimpArgs false
set_option linter.unusedVariables false
theorem take_next {α : Type} {a b : List α} {i : Nat} (h : a.take i = b.take i) (ha : i < a.length) (hb : i < b.length) (e : a[i] = b[i]) : a.take (i + 1) = b.take (i + 1) := by
  rw [List.take_succ_eq_append_getElem ha, List.take_succ_eq_append_getElem hb, h, e]
theorem take_all {α : Type} {a b : List α} {i : Nat} (h : a.take i = b.take i) (ha : a.length ≤ i) (hb : b.length ≤ i) : a = b := by
  rwa [List.take_of_length_le ha, List.take_of_length_le hb] at h
def InvS1 (t0 : Tm) (x3 : Value) (e : Nat) (a b : List Int) (H : Heap) (k : Nat) (t : Tm) (H1 : Heap) : Prop :=
  ∃ i : Nat, i + k = b.length ∧ t 9 = ptr e ∧ t 2 = t0 2 ∧ t 3 = x3 ∧ t 54 = iv b.length ∧ t 55 = iv i ∧ a.take i = b.take i ∧ H1 = H
theorem same1 {H : Heap} {e : Nat} {ym x3 : Value} {a b : List Int} (l0 : H.load ⟨e, 0, none⟩ = some ym) (hy : Ints H .i64 ym a) (hx : Ints H .i64 x3 b) (hlen : a.length = b.length) (hb : b.length ≤ 100000) {Q : Post} {t : Tm} (t9 : t 9 = ptr e) (t3 : t 3 = x3) (t54 : t 54 = iv b.length) (t55 : t 55 = iv 0)
    (hE : a = b → ∀ t' : Tm, t' 9 = ptr e → t' 2 = t 2 → Q (.exit 0) t' (rdy H)) (hR : a ≠ b → ∀ t' : Tm, t' 8 = .bool false → Q .ret t' (rdy H)) : wpA Try.prog (.loop L56_1) Q t (rdy H) := by
  refine loop_at (InvS1 t x3 e a b H) b.length ?_ ?_
  · exact ⟨0, by omega, t9, rfl, t3, t54, t55, by simp, rfl⟩
  rintro k t1 H1 ⟨i, hik, u9, u2, u3, u54, u55, htk, rfl⟩
  cases k with
  | zero =>
    have ei : i = b.length := by omega
    simp [L56_1, u54, u55, ei]
    exact hE (take_all htk (by omega) (by omega)) _ (by simp [u9]) (by simp [u2])
  | succ k =>
    have hi : i < b.length := by omega
    have hia : i < a.length := by omega
    have hiI : (i : Int) < (b.length : Int) := by omega
    have e4 : IntKind.i64.wrap ((i : Int) + 1) = ((i + 1 : Nat) : Int) := by rw [w64 _ (by omega)]; omega
    obtain ⟨by1, oy, cy, hym, ldy⟩ := hy.at hia
    obtain ⟨bx1, ox, cx, hxm, ldx⟩ := hx.at hi
    rw [hym] at l0
    have u3' := u3.trans hxm
    by_cases hc : a[i] = b[i]
    · have c1 : (a[i] != b[i]) = false := by simp [hc]
      simp [L56_1, u54, u55, hi, hiI, u9, l0, hia, ldy, u3', ldx, c1, e4]
      exact ⟨k, by omega, i + 1, by omega, by simp [u9], by simp [u2], by simp [u3, ← hxm], by simp [u54], by simp, take_next htk hia hi hc, rfl⟩
    · have c1 : (a[i] != b[i]) = true := bne_iff_ne.2 hc
      simp [L56_1, u54, u55, hi, hiI, u9, l0, hia, ldy, u3', ldx, c1]
      exact hR (fun h => hc (by subst h; rfl)) _ (by simp)
def InvS2 (t0 : Tm) (e q : Nat) (a b : List Int) (H : Heap) (k : Nat) (t : Tm) (H1 : Heap) : Prop :=
  ∃ i : Nat, i + k = a.length ∧ t 9 = ptr e ∧ t 2 = ptr q ∧ t 71 = iv a.length ∧ t 72 = iv i ∧ a.take i = b.take i ∧ H1 = H
theorem same2 {H : Heap} {e q : Nat} {yo xo : Value} {a b : List Int} (l1 : H.load ⟨e, 1, none⟩ = some yo) (l2 : H.load ⟨q, 2, none⟩ = some xo) (hy : Ints H .i64 yo a) (hx : Ints H .i64 xo b) (hlen : a.length = b.length) (hb : b.length ≤ 100000) {Q : Post} {t : Tm} (t9 : t 9 = ptr e) (t2 : t 2 = ptr q) (t71 : t 71 = iv a.length) (t72 : t 72 = iv 0)
    (hE : a = b → ∀ t' : Tm, t' 9 = ptr e → t' 2 = ptr q → Q (.exit 2) t' (rdy H)) (hR : a ≠ b → ∀ t' : Tm, t' 8 = .bool false → Q .ret t' (rdy H)) : wpA Try.prog (.loop L56_2) Q t (rdy H) := by
  refine loop_at (InvS2 t e q a b H) a.length ?_ ?_
  · exact ⟨0, by omega, t9, t2, t71, t72, by simp, rfl⟩
  rintro k t1 H1 ⟨i, hik, u9, u2, u71, u72, htk, rfl⟩
  cases k with
  | zero =>
    have ei : i = a.length := by omega
    simp [L56_2, u71, u72, ei]
    exact hE (take_all htk (by omega) (by omega)) _ (by simp [u9]) (by simp [u2])
  | succ k =>
    have hi : i < b.length := by omega
    have hia : i < a.length := by omega
    have hiI : (i : Int) < (a.length : Int) := by omega
    have e4 : IntKind.i64.wrap ((i : Int) + 1) = ((i + 1 : Nat) : Int) := by rw [w64 _ (by omega)]; omega
    obtain ⟨by1, oy, cy, hym, ldy⟩ := hy.at hia
    obtain ⟨bx1, ox, cx, hxm, ldx⟩ := hx.at hi
    rw [hym] at l1
    rw [hxm] at l2
    by_cases hc : a[i] = b[i]
    · have c1 : (a[i] != b[i]) = false := by simp [hc]
      simp [L56_2, u71, u72, hi, hiI, u9, l1, hia, ldy, u2, l2, ldx, c1, e4]
      exact ⟨k, by omega, i + 1, by omega, by simp [u9], by simp [u2], by simp [u71], by simp, take_next htk hia hi hc, rfl⟩
    · have c1 : (a[i] != b[i]) = true := bne_iff_ne.2 hc
      simp [L56_2, u71, u72, hi, hiI, u9, l1, hia, ldy, u2, l2, ldx, c1]
      exact hR (fun h => hc (by subst h; rfl)) _ (by simp)
end Go.Proofs.Ytjkfghekdcalhaa
namespace Go.Proofs.Ytjkfghekdcalhaa
open Go.Ot Go.RowKit
open R14 (ci)
set_option linter.unusedSimpArgs false
set_option linter.unusedVariables false
set_option maxRecDepth 100000 in
theorem eqInto (a b : Int × Int) (w : World) : (Op.equal 97 (.agg #[iv a.1, iv a.2]) (.agg #[iv b.1, iv b.2])).run Try.prog w = .ok (decide (a = b)) w := by
  have hd : ∀ x y, Op.equal 97 x y = Op.equalIn (9999 + 1) 97 x y := fun _ _ => rfl
  have hf : ∃ f1 f2 : Field, Try.prog.fieldsOf 97 = #[f1, f2] ∧ (f1.name ≠ "_" ∧ f2.name ≠ "_") ∧ (f1.offset = 0 ∧ f2.offset = 1) ∧ (Try.prog.underlying f1.type = some (.int .i64) ∧ Try.prog.underlying f2.type = some (.int .i64)) ∧ (Try.prog.plainKey f1.type = true ∧ Try.prog.plainKey f2.type = true) ∧ Try.prog.underlying 97 = some (.struct #[f1, f2]) := by
    unfold Program.fieldsOf
    rw [Try.underlying97]
    refine ⟨_, _, rfl, ⟨by decide, by decide⟩, ⟨rfl, rfl⟩, ⟨?_, ?_⟩, ⟨by kernel_rfl, by kernel_rfl⟩, rfl⟩ <;> kernel_rfl
  obtain ⟨f1, f2, hf, ⟨n1, n2⟩, ⟨o1, o2⟩, ⟨u1, u2⟩, ⟨k1, k2⟩, hu⟩ := hf
  rw [hd, run_equalIn_struct w 9999 97 _ _ (by rw [hf]; exact hu) (by kernel_rfl), hf]
  show (Op.eqFields 9999 _ _ [f1, f2]).run Try.prog w = _
  rw [stepG (n := a.1) (m := b.1) w n1 k1 u1 (by rw [o1]; rfl) (by rw [o1]; rfl), stepG (n := a.2) (m := b.2) w n2 k2 u2 (by rw [o2]; rfl) (by rw [o2]; rfl)]
  have hz : (Op.eqFields 9999 #[iv a.1, iv a.2] #[iv b.1, iv b.2] []).run Try.prog w = .ok true w := rfl
  rw [hz]
  obtain ⟨a1, a2⟩ := a
  obtain ⟨b1, b2⟩ := b
  by_cases c1 : a1 = b1 <;> by_cases c2 : a2 = b2 <;> simp [c1, c2]
def InvS3 (e q : Nat) (a b : List (Int × Int)) (H : Heap) (k : Nat) (t : Tm) (H1 : Heap) : Prop :=
  ∃ i : Nat, i + k = a.length ∧ t 9 = ptr e ∧ t 2 = ptr q ∧ t 91 = iv a.length ∧ t 92 = iv i ∧ a.take i = b.take i ∧ H1 = H
theorem same3 {H : Heap} {e q : Nat} {yi xi : Value} {a b : List (Int × Int)} (l2 : H.load ⟨e, 2, none⟩ = some yi) (l3 : H.load ⟨q, 3, none⟩ = some xi) (hy : Rws H 2 yi (rows2 a)) (hx : Rws H 2 xi (rows2 b)) (hlen : a.length = b.length) (hb : b.length ≤ 100000) {Q : Post} {t : Tm} (t9 : t 9 = ptr e) (t2 : t 2 = ptr q) (t91 : t 91 = iv a.length) (t92 : t 92 = iv 0)
    (hE : a = b → ∀ t' : Tm, Q (.exit 4) t' (rdy H)) (hR : a ≠ b → ∀ t' : Tm, t' 8 = .bool false → Q .ret t' (rdy H)) : wpA Try.prog (.loop L56_3) Q t (rdy H) := by
  refine loop_at (InvS3 e q a b H) a.length ?_ ?_
  · exact ⟨0, by omega, t9, t2, t91, t92, by simp, rfl⟩
  rintro k t1 H1 ⟨i, hik, u9, u2, u91, u92, htk, rfl⟩
  cases k with
  | zero =>
    have ei : i = a.length := by omega
    simp [L56_3, u91, u92, ei]
    exact hE (take_all htk (by omega) (by omega)) _
  | succ k =>
    have hi : i < b.length := by omega
    have hia : i < a.length := by omega
    have hiI : (i : Int) < (a.length : Int) := by omega
    have e4 : IntKind.i64.wrap ((i : Int) + 1) = ((i + 1 : Nat) : Int) := by rw [w64 _ (by omega)]; omega
    have la : (rows2 a).length = a.length := by simp [rows2]
    have lb : (rows2 b).length = b.length := by simp [rows2]
    obtain ⟨by1, oy, cy, hym, _, ldy, _⟩ := hy.at (i := i) (by omega)
    obtain ⟨bx1, ox, cx, hxm, _, ldx, _⟩ := hx.at (i := i) (by omega)
    have ea : (rows2 a)[i]'(by omega) = [iv a[i].1, iv a[i].2] := by simp [rows2]
    have eb : (rows2 b)[i]'(by omega) = [iv b[i].1, iv b[i].2] := by simp [rows2]
    rw [ea] at ldy
    rw [eb] at ldx
    rw [hym, la] at l2
    rw [hxm, lb] at l3
    have eq := eqInto a[i] b[i]
    obtain ⟨v, hv⟩ : ∃ v, v = decide (a[i] = b[i]) := ⟨_, rfl⟩
    rw [← hv] at eq
    simp [L56_3, u91, u92, hi, hiI, u9, l2, hia, ldy, u2, l3, ldx]
    first
      | refine goE_of (xs := #[iv a[i].1, iv a[i].2]) (ys := #[iv b[i].1, iv b[i].2]) rfl rfl eq ?_
      | (rw [wpP_eqR0]; refine goE_of (xs := #[iv a[i].1, iv a[i].2]) (ys := #[iv b[i].1, iv b[i].2]) rfl rfl eq ?_)
    cases v with
    | true =>
      have hc : a[i] = b[i] := by simpa using hv.symm
      simp [u92, e4]
      exact ⟨k, by omega, i + 1, by omega, by simp [u9], by simp [u2], by simp [u91], by simp, take_next htk hia hi hc, rfl⟩
    | false =>
      have hc : a[i] ≠ b[i] := by simpa using hv.symm
      simp
      exact hR (fun h => hc (by subst h; rfl)) _ (by simp)
end Go.Proofs.Ytjkfghekdcalhaa
namespace Go.Proofs.Ytjkfghekdcalhaa
open Go.Ot Go.RowKit
open R14 (ci)
set_option linter.unusedSimpArgs false
set_option linter.unusedVariables false
def L56t : LCode :=
 .seq (.seq (.draw [⟨⟨some 28, .off 3 (.tmp 9), none⟩, .pure, 0, 0⟩,
  ⟨⟨some 29, .load false 1 (.tmp 28), none⟩, .read, 0, 0⟩,
  ⟨⟨some 30, .bin .neq (.tmp 29) (.const (.int .i64 1)), none⟩, .pure, 0, 0⟩,
  ⟨⟨some 31, .move (.tmp 30), none⟩, .pure, 0, 0⟩,
  ⟨⟨some 32, .off 1 (.tmp 9), (some (31, false))⟩, .pure, 0, 0⟩,
  ⟨⟨some 33, .load false 1 (.tmp 32), (some (31, false))⟩, .read, 0, 0⟩,
  ⟨⟨some 34, .len (.tmp 33), (some (31, false))⟩, .pure, 0, 0⟩,
  ⟨⟨some 35, .move (.tmp 2), (some (31, false))⟩, .pure, 0, 0⟩,
  ⟨⟨some 36, .nilCheck (.tmp 35), (some (31, false))⟩, .pure, 0, 0⟩,
  ⟨⟨some 37, .off 2 (.tmp 36), (some (31, false))⟩, .pure, 0, 0⟩,
  ⟨⟨some 38, .load false 1 (.tmp 37), (some (31, false))⟩, .read, 0, 0⟩,
  ⟨⟨some 39, .len (.tmp 38), (some (31, false))⟩, .pure, 0, 0⟩,
  ⟨⟨some 40, .bin .neq (.tmp 34) (.tmp 39), (some (31, false))⟩, .pure, 0, 0⟩,
  ⟨⟨some 41, .pick (.tmp 31) (.const (.bool true)) (.tmp 40), none⟩, .pure, 0, 0⟩,
  ⟨⟨some 42, .move (.tmp 41), none⟩, .pure, 0, 0⟩,
  ⟨⟨some 43, .off 2 (.tmp 9), (some (42, false))⟩, .pure, 0, 0⟩,
  ⟨⟨some 44, .load false 1 (.tmp 43), (some (42, false))⟩, .read, 0, 0⟩,
  ⟨⟨some 45, .len (.tmp 44), (some (42, false))⟩, .pure, 0, 0⟩,
  ⟨⟨some 46, .move (.tmp 2), (some (42, false))⟩, .pure, 0, 0⟩,
  ⟨⟨some 47, .nilCheck (.tmp 46), (some (42, false))⟩, .pure, 0, 0⟩,
  ⟨⟨some 48, .off 3 (.tmp 47), (some (42, false))⟩, .pure, 0, 0⟩,
  ⟨⟨some 49, .load false 1 (.tmp 48), (some (42, false))⟩, .read, 0, 0⟩,
  ⟨⟨some 50, .len (.tmp 49), (some (42, false))⟩, .pure, 0, 0⟩,
  ⟨⟨some 51, .bin .neq (.tmp 45) (.tmp 50), (some (42, false))⟩, .pure, 0, 0⟩,
  ⟨⟨some 52, .pick (.tmp 42) (.const (.bool true)) (.tmp 51), none⟩, .pure, 0, 0⟩])
 (.cond (.tmp 52) (.seq (.region [⟨some 8, .move (.const (.bool false)), none⟩])
 (.ret))
 (.skip)))
 (.seq (.seq (.region [⟨some 53, .move (.tmp 3), none⟩,
  ⟨some 54, .len (.tmp 53), none⟩,
  ⟨some 55, .move (.const (.int .i64 0)), none⟩])
 (.block 0 (.loop L56_1)))
 (.seq (.seq (.region [⟨some 69, .off 1 (.tmp 9), none⟩,
  ⟨some 70, .load false 1 (.tmp 69), none⟩,
  ⟨some 71, .len (.tmp 70), none⟩,
  ⟨some 72, .move (.const (.int .i64 0)), none⟩])
 (.block 2 (.loop L56_2)))
 (.seq (.seq (.region [⟨some 89, .off 2 (.tmp 9), none⟩,
  ⟨some 90, .load false 1 (.tmp 89), none⟩,
  ⟨some 91, .len (.tmp 90), none⟩,
  ⟨some 92, .move (.const (.int .i64 0)), none⟩])
 (.block 4 (.loop L56_3)))
 (.seq (.region [⟨some 8, .move (.const (.bool true)), none⟩])
 (.ret)))))
theorem L56_eq : L56 =
 .seq (.region [⟨some 8, .move (.const (.bool false)), none⟩])
 (.seq (.alts [[⟨⟨some 15, .move (.tmp 0), none⟩, .pure, 0, 0⟩,
  ⟨⟨some 16, .nilCheck (.tmp 15), none⟩, .pure, 0, 0⟩,
  ⟨⟨some 17, .off 0 (.tmp 16), none⟩, .pure, 0, 0⟩,
  ⟨⟨some 18, .load true 11 (.tmp 17), none⟩, .read, 0, 0⟩,
  ⟨⟨some 19, .move (.tmp 1), none⟩, .pure, 0, 0⟩,
  ⟨⟨some 20, .move (.tmp 0), none⟩, .pure, 0, 0⟩,
  ⟨⟨some 21, .nilCheck (.tmp 20), none⟩, .pure, 0, 0⟩,
  ⟨⟨some 22, .off 212 (.tmp 21), none⟩, .pure, 0, 0⟩,
  ⟨⟨some 23, .off 0 (.tmp 22), none⟩, .pure, 0, 0⟩,
  ⟨⟨some 24, .load false 1 (.tmp 23), none⟩, .read, 0, 0⟩,
  ⟨⟨some 25, .call 21 [.tmp 18, .tmp 19, .tmp 24], none⟩, .heavy, 0, 1⟩,
  ⟨⟨some 14, .move (.tmp 25), none⟩, .pure, 1, 2⟩,
  ⟨⟨some 26, .extract (.tmp 14) 0, none⟩, .pure, 1, 2⟩,
  ⟨⟨some 27, .extract (.tmp 14) 1, none⟩, .pure, 1, 3⟩,
  ⟨⟨some 9, .new 67 6 [.slice none 0 0, .slice none 0 0, .slice none 0 0, .int .i64 0, .int .i64 0, .int .i64 0], none⟩, .heavy, 1, 2⟩,
  ⟨⟨none, .store 6 (.tmp 9) (.tmp 26), none⟩, .heavy, 2, 3⟩,
  ⟨⟨some 10, .move (.tmp 27), none⟩, .pure, 3, 3⟩],
 [⟨⟨some 15, .move (.tmp 0), none⟩, .pure, 0, 1⟩,
  ⟨⟨some 16, .nilCheck (.tmp 15), none⟩, .pure, 0, 1⟩,
  ⟨⟨some 17, .off 0 (.tmp 16), none⟩, .pure, 0, 1⟩,
  ⟨⟨some 18, .load true 11 (.tmp 17), none⟩, .read, 0, 1⟩,
  ⟨⟨some 19, .move (.tmp 1), none⟩, .pure, 0, 1⟩,
  ⟨⟨some 20, .move (.tmp 0), none⟩, .pure, 0, 1⟩,
  ⟨⟨some 21, .nilCheck (.tmp 20), none⟩, .pure, 0, 1⟩,
  ⟨⟨some 22, .off 212 (.tmp 21), none⟩, .pure, 0, 1⟩,
  ⟨⟨some 23, .off 0 (.tmp 22), none⟩, .pure, 0, 1⟩,
  ⟨⟨some 24, .load false 1 (.tmp 23), none⟩, .read, 0, 1⟩,
  ⟨⟨some 9, .new 67 6 [.slice none 0 0, .slice none 0 0, .slice none 0 0, .int .i64 0, .int .i64 0, .int .i64 0], none⟩, .heavy, 0, 1⟩,
  ⟨⟨some 25, .call 21 [.tmp 18, .tmp 19, .tmp 24], none⟩, .heavy, 1, 2⟩,
  ⟨⟨some 14, .move (.tmp 25), none⟩, .pure, 2, 2⟩,
  ⟨⟨some 26, .extract (.tmp 14) 0, none⟩, .pure, 2, 2⟩,
  ⟨⟨some 27, .extract (.tmp 14) 1, none⟩, .pure, 2, 3⟩,
  ⟨⟨none, .store 6 (.tmp 9) (.tmp 26), none⟩, .heavy, 2, 3⟩,
  ⟨⟨some 10, .move (.tmp 27), none⟩, .pure, 3, 3⟩]])
 L56t) := rfl
def sameV (s : Ms × Wl) (t : Tr) (mm : List Int) : Bool := decide (s.1.over = 1 ∧ s.2.mem = mm ∧ s.2.outs = t.outs ∧ s.2.intos = t.intos)
theorem run_mem (code : List I8.In) (W F : Int) : ∀ (k : Nat) (s : Ms × Wl), (runM code W F k s).2.mem.length = s.2.mem.length
  | 0, s => rfl
  | k + 1, s => by
    rw [runM]
    split
    · rfl
    · rw [run_mem code W F k]
      exact (give_rows _ _ _ _).1
theorem same_w {H0 H : Heap} (hn : H0.next ≤ H.next) {e q : Nat} {ym yo yi x3 xo xi : Value} {s : Ms × Wl} {tr : Tr} {mm : List Int} (l0 : H.load ⟨e, 0, none⟩ = some ym) (l1 : H.load ⟨e, 1, none⟩ = some yo) (l2 : H.load ⟨e, 2, none⟩ = some yi) (l3 : H.load ⟨e, 3, none⟩ = some (iv s.1.over))
    (q2 : H.load ⟨q, 2, none⟩ = some xo) (q3 : H.load ⟨q, 3, none⟩ = some xi) (om : Ints H .i64 ym s.2.mem) (oo : Ints H .i64 yo s.2.outs) (oi : Rws H 2 yi (rows2 s.2.intos)) (pm : Ints H .i64 x3 mm) (po : Ints H .i64 xo tr.outs) (pi : Rws H 2 xi (rows2 tr.intos))
    (hlm : s.2.mem.length = mm.length) (b1 : mm.length ≤ 100000) (b2 : tr.outs.length ≤ 100000) (b3 : tr.intos.length ≤ 100000) (hk : ∀ b, b < H0.next → H.blk b = H0.blk b) {t : Tm} (t9 : t 9 = ptr e) (t2 : t 2 = ptr q) (t3 : t 3 = x3) :
    wpA Try.prog L56t (EndA (fun v1 H1 => v1 = .bool (sameV s tr mm) ∧ H0.next ≤ H1.next ∧ ∀ b, b < H0.next → H1.blk b = H0.blk b) [.tmp 8]) t (rdy H) := by
  obtain ⟨ao, co, hyo⟩ := oo.len
  obtain ⟨ai, ci', hyi⟩ := oi.len
  obtain ⟨ax, cx, hx3⟩ := pm.len
  obtain ⟨bo, do', hxo⟩ := po.len
  obtain ⟨bi, di, hxi⟩ := pi.len
  have la : (rows2 s.2.intos).length = s.2.intos.length := by simp [rows2]
  have lb : (rows2 tr.intos).length = tr.intos.length := by simp [rows2]
  rw [la] at hyi
  rw [lb] at hxi
  have l1' := l1; have l2' := l2; have q2' := q2; have q3' := q3
  rw [hyo] at l1'
  rw [hyi] at l2'
  rw [hxo] at q2'
  rw [hxi] at q3'
  obtain ⟨V, hV⟩ : ∃ V, V = sameV s tr mm := ⟨_, rfl⟩
  rw [← hV]
  obtain ⟨z, hz⟩ : ∃ z, z = (s.1.over != 1) := ⟨_, rfl⟩
  cases z with
  | true =>
    have hne : s.1.over ≠ 1 := bne_iff_ne.1 hz.symm
    have hv : V = false := by rw [hV]; simp [sameV, hne]
    simp [L56t, t9, l3, ← hz, hv]
    exact ⟨hn, hk⟩
  | false =>
  have ho : s.1.over = 1 := by simpa using hz.symm
  by_cases c1 : s.2.outs.length = tr.outs.length
  case neg =>
    have hv : V = false := by rw [hV]; simp [sameV]; intro _ _ h; exact absurd (by rw [h]) c1
    have e1 : ((s.2.outs.length : Int) != (tr.outs.length : Int)) = true := bne_iff_ne.2 (by omega)
    simp [L56t, t9, t2, l3, ← hz, l1', q2', e1, c1, hv]
    exact ⟨hn, hk⟩
  case pos =>
  by_cases c2 : s.2.intos.length = tr.intos.length
  case neg =>
    have hv : V = false := by rw [hV]; simp [sameV]; intro _ _ _ h; exact absurd (by rw [h]) c2
    have e1 : ((s.2.outs.length : Int) != (tr.outs.length : Int)) = false := by simp [c1]
    have e2 : ((s.2.intos.length : Int) != (tr.intos.length : Int)) = true := bne_iff_ne.2 (by omega)
    simp [L56t, t9, t2, l3, ← hz, l1', q2', e1, c1, l2', q3', e2, c2, hv]
    exact ⟨hn, hk⟩
  case pos =>
  have e1 : ((s.2.outs.length : Int) != (tr.outs.length : Int)) = false := by simp [c1]
  have e2 : ((s.2.intos.length : Int) != (tr.intos.length : Int)) = false := by simp [c2]
  simp [L56t, t9, t2, l3, ← hz, l1', q2', e1, c1, l2', q3', e2, c2, t3]
  rw [hx3]
  simp
  rw [← hx3]
  refine same1 (a := s.2.mem) (b := mm) l0 om pm hlm b1 (by simp [t9]) (by simp [t3]) (by simp) (by simp) (fun hm t1 u9 u2 => ?_) (fun hm t1 u8 => ?_)
  case refine_2 =>
    have hv : V = false := by rw [hV]; simp [sameV]; intro _ h; exact absurd h hm
    simp [u8, hv]
    exact ⟨hn, hk⟩
  have u2' : t1 2 = ptr q := by rw [u2]; simp [t2]
  simp [u9, l1']
  refine same2 (a := s.2.outs) (b := tr.outs) l1 q2 oo po c1 b2 (by simp [u9]) (by simp [u2']) (by simp [c1]) (by simp) (fun hm2 t3' w9 w2 => ?_) (fun hm2 t3' u8 => ?_)
  case refine_2 =>
    have hv : V = false := by rw [hV]; simp [sameV]; intro _ _ h; exact absurd h hm2
    simp [u8, hv]
    exact ⟨hn, hk⟩
  simp [w9, l2']
  refine same3 (a := s.2.intos) (b := tr.intos) l2 q3 oi pi c2 b3 (by simp [w9]) (by simp [w2]) (by simp [c2]) (by simp) (fun hm3 t5 => ?_) (fun hm3 t5 u8 => ?_)
  case refine_2 =>
    have hv : V = false := by rw [hV]; simp [sameV]; intro _ _ _ h; exact absurd h hm3
    simp [u8, hv]
    exact ⟨hn, hk⟩
  have hv : V = true := by rw [hV]; simp [sameV, ho, hm, hm2, hm3]
  simp [hv]
  exact ⟨hn, hk⟩
end Go.Proofs.Ytjkfghekdcalhaa
namespace Go.Proofs.Ytjkfghekdcalhaa
open Go.Ot Go.RowKit
open R14 (ci)
set_option linter.unusedSimpArgs false
set_option linter.unusedVariables false
theorem same_T {H : Heap} (hw : H.WF) {J : Jb} (ok : JbOk H J) (hv : validE J = 0) {age : Int} (h0 : ¬ (age < 0 ∨ (cntP J.S).1 ≤ age)) {p q : Nat} {xm x3 xo xi : Value} {mem mm : List Int} {tr : Tr} (lJH : ∀ H', On H H' → H'.loadN ⟨p, 0, none⟩ 0 11 = some (jobC J)) (lm : H.load ⟨p, 212, none⟩ = some xm)
    (hm' : Ints H .i64 xm mem) (hlen : (mem.length : Int) = J.words) (q2 : H.load ⟨q, 2, none⟩ = some xo) (q3 : H.load ⟨q, 3, none⟩ = some xi) (pm : Ints H .i64 x3 mm) (po : Ints H .i64 xo tr.outs) (pi : Rws H 2 xi (rows2 tr.intos)) (hlm : mem.length = mm.length)
    (b2 : tr.outs.length ≤ 100000) (b3 : tr.intos.length ≤ 100000) : T Try.prog 56 [ptr p, iv age, ptr q, x3] H (.bool (sameV (taskV J age mem) tr mm)) H := by
  refine T_seenX hm lightX56 rfl ?_
  rw [L56_eq]
  have lJ := lJH H (On.refl hw)
  have jv := JV.of hv
  have hWW := jv.w
  obtain ⟨V, hV⟩ : ∃ V, V = taskV J age mem := ⟨_, rfl⟩
  have hml : V.2.mem.length = mm.length := by rw [hV]; unfold taskV; rw [run_mem]; exact hlm
  have kA := task_E hw ok hv h0 hm' hlen
  rw [← hV] at kA ⊢
  obtain ⟨H3, hH3⟩ : ∃ H3, H3 = H.new 67 6 [.slice none 0 0, .slice none 0 0, .slice none 0 0, iv 0, iv 0, iv 0] := ⟨_, rfl⟩
  have on3 : On H H3 := by rw [hH3]; exact (On.refl hw).new _ _ _
  have v3 : Vr H3 H.next 67 6 [.slice none 0 0, .slice none 0 0, .slice none 0 0, iv 0, iv 0, iv 0] := by rw [hH3]; exact Vr.mk' hw _ _ _
  have lJ3 : H3.loadN ⟨p, 0, none⟩ 0 11 = some (jobC J) := lJH H3 on3
  have lm3 := load_keepN hw on3.base on3.keep lm
  have kB := task_E on3.wf (ok.on hw on3) hv h0 (hm'.keep hw on3.base on3.keep) hlen
  rw [← hV] at kB
  simp [lJ, lm]
  constructor
  · refine goA_of hw kA ?_
    rintro o H4 ⟨on4, ym, yo, yi, rfl, o0, o1, o2, nb⟩ w4 b4 n4
    have st4 := new_storeA w4 67 6 [.slice none 0 0, .slice none 0 0, .slice none 0 0, iv 0, iv 0, iv 0] [ym, yo, yi, iv V.1.over, iv V.1.value, iv V.1.steps] rfl rfl (by decide)
    obtain ⟨H5, hH5⟩ : ∃ H5, H5 = H4.new 67 6 [ym, yo, yi, iv V.1.over, iv V.1.value, iv V.1.steps] := ⟨_, rfl⟩
    have on5 : On H4 H5 := by rw [hH5]; exact (On.refl w4).new _ _ _
    have v5 : Vr H5 H4.next 67 6 [ym, yo, yi, iv V.1.over, iv V.1.value, iv V.1.steps] := by rw [hH5]; exact Vr.mk' w4 _ _ _
    have onF := on4.trans on5
    rw [← hH5] at st4
    simp [st4]
    exact same_w (H0 := H) onF.next (v5.load 0) (v5.load 1) (v5.load 2) (v5.load 3) (load_keepN hw onF.base onF.keep q2) (load_keepN hw onF.base onF.keep q3) (Own.on w4 o0 on5).ints (Own.on w4 o1 on5).ints (own_rows2 (Own.on w4 o2 on5)) (pm.keep hw onF.base onF.keep) (po.keep hw onF.base onF.keep) (Rws.keep hw onF.base onF.keep pi) hml (by omega) b2 b3 onF.keep (by simp) (by simp) (by simp)
  · simp [← hH3, lJ3, lm3]
    refine goA_of on3.wf kB ?_
    rintro o H4 ⟨on4, ym, yo, yi, rfl, o0, o1, o2, nb⟩ w4 b4 n4
    have v4 := v3.on on3.wf on4
    have s4 := v4.storeA (m := 6) (by decide) [ym, yo, yi, iv V.1.over, iv V.1.value, iv V.1.steps] rfl rfl
    obtain ⟨H5, hH5⟩ : ∃ H5, H5 = H4.put H.next [ym, yo, yi, iv V.1.over, iv V.1.value, iv V.1.steps] := ⟨_, rfl⟩
    have v5 : Vr H5 H.next 67 6 [ym, yo, yi, iv V.1.over, iv V.1.value, iv V.1.steps] := by rw [hH5]; exact v4.put _
    have onF : On H H5 := by rw [hH5]; exact (on3.trans on4).put (Nat.le_refl _) _
    have n3 : H3.next = H.next + 1 := by rw [hH3]; rfl
    have kp : ∀ {ety sz m : Nat} {cs : List Value} {y : Value} (h : Own H4 ety sz m cs y), (∀ b, blkOf y = some b → H3.next ≤ b) → Own H5 ety sz m cs y := fun h h1 => h.keep (by rw [hH5]; simp) (fun b hb => by have := h1 b hb; rw [hH5]; simp [show b ≠ H.next by omega])
    rw [← hH5] at s4
    simp [s4]
    exact same_w (H0 := H) onF.next (v5.load 0) (v5.load 1) (v5.load 2) (v5.load 3) (load_keepN hw onF.base onF.keep q2) (load_keepN hw onF.base onF.keep q3) (kp o0 (fun b hb => nb b (.inl hb))).ints (kp o1 (fun b hb => nb b (.inr (.inl hb)))).ints (own_rows2 (kp o2 (fun b hb => nb b (.inr (.inr hb))))) (pm.keep hw onF.base onF.keep) (po.keep hw onF.base onF.keep) (Rws.keep hw onF.base onF.keep pi) hml (by omega) b2 b3 onF.keep (by simp) (by simp) (by simp)
end Go.Proofs.Ytjkfghekdcalhaa
namespace Go.Proofs.Ytjkfghekdcalhaa
open Go.Ot Go.RowKit
open R14 (ci)
set_option linter.unusedSimpArgs false
set_option linter.unusedVariables false
theorem bk_job {H : Heap} {p : Nat} {J : Jb} {n : Int} {pt : List Value} {xm xo xr : Value} {S : BS} {wh : Bool} (v : Vr H p 81 220 (bkC J n pt xm xo xr S wh)) : H.loadN ⟨p, 0, none⟩ 0 11 = some (jobC J) := by
  have := loadN_cells (H := H) (b := p) (off := 0) (l := jobC J) (i := 0) (fun j hj => by
    rw [Nat.add_zero, Nat.zero_add, v.load, bkC, List.getElem?_append_left hj]
    exact List.getElem?_eq_getElem hj)
  exact this
theorem same_B {H0 H : Heap} (hw0 : H0.WF) {p : Nat} {ow : Nat → Nat} {J : Jb} {wh : Bool} {S : BS} {pt : List Value} {xm xo xr : Value} (B : BK H0 H p ow J (cntP J.S).1 wh S pt xm xo xr) (ok : JbOk H0 J) {k : Nat} (sok : SOk J k S) (hk : k ≤ 300) (hv : validE J = 0) {age : Int} (h0 : ¬ (age < 0 ∨ (cntP J.S).1 ≤ age))
    {a q : Nat} {t : Tr} {yr yw yo yi : Value} (ht : S.tries[a]? = some (some t)) (T1 : TrH H ow a q t yr yw yo yi) {x3 : Value} {mm : List Int} (pm : Ints H .i64 x3 mm) (hlm : mm.length = S.mem.length) :
    T Try.prog 56 [ptr p, iv age, ptr q, x3] H (.bool (sameV (taskV J age S.mem) t mm)) H := by
  have hw := B.on.wf
  have tok := sok.tr a t ht
  exact same_T hw (ok.on hw0 B.on) hv h0 (fun H' o => bk_job (B.vp.on hw o)) (BL.of B.vp B.pl).lm (Own.ints B.m) sok.mem (T1.vq.load 2) (T1.vq.load 3) pm (Own.ints T1.o) (own_rows2 T1.n) hlm.symm (by have := tok.lo; omega) (by have := tok.ln; omega)
end Go.Proofs.Ytjkfghekdcalhaa
