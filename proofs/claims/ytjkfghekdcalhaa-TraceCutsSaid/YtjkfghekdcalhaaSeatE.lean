/-
  Chapter 27: an event: what is refused at once; a task begins; what is read, written, put out, put in.
-/
import Derived.Test.YtjkfghekdcalhaaSeatD
namespace Go.Proofs.Ytjkfghekdcalhaa
open Go.Ot Go.RowKit
open R14 (Twos ci joinV addN ontoN)
set_option linter.unusedSimpArgs false
set_option linter.unusedVariables false
/-- One more behind a row: the old block is gone, the new one is the last. -/
theorem own_push {H : Heap} (hw : H.WF) {ety sz n : Nat} (bytes : Nat) {cells e : List Value} {y : Value} (h : Own H ety sz n cells y) (he : e.length = sz) (h0 : 0 < sz) (hb : (n + 1) * bytes ≤ 140737488355328) :
    ∃ HC, sAppend (H.new ety sz e) ety sz bytes y (.slice (some ⟨H.next, 0, none⟩) 1 0) = some (.slice (some ⟨H.next + 1, 0, none⟩) (n + 1) 0, HC) ∧ Own HC ety sz (n + 1) (cells ++ e) (.slice (some ⟨H.next + 1, 0, none⟩) (n + 1) 0) ∧ HC.WF ∧ HC.base = H.base ∧ HC.next = H.next + 2 ∧ (∀ b, b < H.next + 1 → blkOf y ≠ some b → HC.blk b = (H.new ety sz e).blk b) := by
  have hnB := hw.next_ge
  have o : On H (H.new ety sz e) := (On.refl hw).new _ _ _
  have own2 := Own.on hw h o
  have hs := src_own (H := H.new ety sz e) (ety := ety) (y := H.next) (sz := sz) (e := e) (by simpa using hnB) (by simp) he h0 0
  have ap := append_any own2 hs (by decide) hb
  refine ⟨_, ap, ?_, WF_new (WF_drop o.wf _) _ _ _, by simp, by simp, fun b h1 h2 => ?_⟩
  · refine Own.mk (by rw [List.length_append, own2.1, he, Nat.add_mul, Nat.one_mul]) ?_ (by simp)
    simpa using o.wf.next_ge
  · have h3 : b ≠ H.next + 1 := by omega
    rw [blk_new, if_neg (by simpa using h3), blk_drop, if_neg h2]
def EvQ (H0 : Heap) (p : Nat) (J : Jb) (n : Int) (wh : Bool) (S : Option BS) (o : Out) (H' : Heap) : Prop :=
  On H0 H' ∧ ((S = none ∧ o = .ret (.bool false)) ∨ ∃ S' ow pt xm xo xr, S = some S' ∧ o = .ret (.bool true) ∧ BK H0 H' p ow J n wh S' pt xm xo xr)
/-- What stands when an event is looked at. -/
structure EA (H0 HA : Heap) (p : Nat) (ow : Nat → Nat) (J : Jb) (n : Int) (wh : Bool) (S : BS) (pt : List Value) (xm xo xr : Value) (vx : Nat) (x : Ev) : Prop where
  bk : BK H0 HA p ow J n wh S pt xm xo xr
  v : Vr HA vx 58 6 (evC x)
  lx : ow vx = 7777
/-- To whom what is made now belongs. -/
def ow2 (ow : Nat → Nat) (b0 l : Nat) : Nat → Nat := fun b => if b = b0 then l else ow b
/-- One more is told of an attempt: what was read. -/
theorem push_r {H0 HA : Heap} {p : Nat} {ow : Nat → Nat} {J : Jb} {n : Int} {wh : Bool} {S : BS} {pt : List Value} {xm xo xr : Value} {vx : Nat} {x : Ev} (A : EA H0 HA p ow J n wh S pt xm xo xr vx x) {i q : Nat} (hi : i < 200) {t : Tr} {yr yw yo yi : Value}
    (hq : pt[i]? = some (ptr q)) (T : TrH HA ow i q t yr yw yo yi) (e : Int × Int) (hl : t.reads.length ≤ 100000) :
    ∃ HC HD, sAppend (HA.new 111 2 [iv e.1, iv e.2]) 111 2 16 yr (.slice (some ⟨HA.next, 0, none⟩) 1 0) = some (.slice (some ⟨HA.next + 1, 0, none⟩) (t.reads.length + 1) 0, HC) ∧ HC.store ⟨q, 0, none⟩ (.slice (some ⟨HA.next + 1, 0, none⟩) (t.reads.length + 1) 0) = some HD ∧
      HA.load ⟨q, 0, none⟩ = some yr ∧ (HA.new 111 2 [iv e.1, iv e.2]).load ⟨q, 0, none⟩ = some yr ∧
      EA H0 HD p (ow2 ow (HA.next + 1) (5 * i + 1)) J n wh { S with tries := S.tries.set i (some { t with reads := t.reads ++ [e] }) } pt xm xo xr vx x := by
  have hw := A.bk.on.wf
  have bq := hw.lt T.vq.bq
  have bv := hw.lt A.v.bq
  have lq := T.lq
  have lx := A.lx
  obtain ⟨HC, ap, own, wf, base, next, keep⟩ := own_push hw 16 T.r (e := [iv e.1, iv e.2]) rfl (by decide) (by omega)
  have ny : ∀ b, (ow b ≠ 5 * i + 1) → blkOf yr ≠ some b := fun b h1 h2 => h1 (T.lr b h2)
  have kp : ∀ b, b < HA.next → ow b ≠ 5 * i + 1 → HC.blk b = HA.blk b := fun b h1 h2 => by rw [keep b (by omega) (ny b h2)]; simp [show b ≠ HA.next by omega]
  have vq : Vr HC q 109 4 [yr, yw, yo, yi] := T.vq.keep base (kp q bq (by omega))
  have sq := vq.store 0 (.slice (some ⟨HA.next + 1, 0, none⟩) (t.reads.length + 1) 0) (by simp)
  have w3 : (HC.put q ([yr, yw, yo, yi].set 0 (.slice (some ⟨HA.next + 1, 0, none⟩) (t.reads.length + 1) 0))).WF := WF_put wf _ _
  have kp3 : ∀ b, b < HA.next → ow b ≠ 5 * i + 1 → b ≠ q → (HC.put q ([yr, yw, yo, yi].set 0 (.slice (some ⟨HA.next + 1, 0, none⟩) (t.reads.length + 1) 0))).blk b = HA.blk b := fun b h1 h2 h3 => by rw [← kp b h1 h2]; simp [h3]
  have ow' : ∀ b, b < HA.next → ow2 ow (HA.next + 1) (5 * i + 1) b = ow b := fun b hb => by unfold ow2; rw [if_neg (by omega)]
  have lt := fun (y : Value) (ety sz n : Nat) (cs : List Value) (h : Own HA ety sz n cs y) b (hb : blkOf y = some b) => h.lt hw hb
  refine ⟨HC, _, ap, sq, T.vq.load 0, ?_, ⟨A.bk.tset hi w3 base (by simp; omega) (fun b h1 h2 => kp3 b h1 (by omega) (fun h3 => by subst h3; omega)) ow' hq ⟨vq.put _, ?_, ?_, ?_, ?_, ?_, ?_, ?_, ?_, ?_⟩, A.v.keep base (kp3 vx bv (by omega) (fun h3 => by subst h3; omega)), by rw [ow' vx bv]; exact lx⟩⟩
  · exact (T.vq.on hw ((On.refl hw).new _ _ _)).load 0
  · show Own _ _ _ (t.reads ++ [e]).length (c2 (t.reads ++ [e])) _
    rw [List.length_append, List.length_singleton, show c2 (t.reads ++ [e]) = c2 t.reads ++ [iv e.1, iv e.2] from c2_snoc _ _]
    exact own.keep (by simp) (fun b hb => by simp at hb; simp [show b ≠ q by omega])
  · exact T.w.keep (B_eq base) (fun b hb => kp3 b (T.w.lt hw hb) (by have := T.lw b hb; omega) (fun h3 => by subst h3; have := T.lw b hb; omega))
  · exact T.o.keep (B_eq base) (fun b hb => kp3 b (T.o.lt hw hb) (by have := T.lo b hb; omega) (fun h3 => by subst h3; have := T.lo b hb; omega))
  · exact T.n.keep (B_eq base) (fun b hb => kp3 b (T.n.lt hw hb) (by have := T.ln b hb; omega) (fun h3 => by subst h3; have := T.ln b hb; omega))
  · rw [ow' q bq]; exact lq
  · intro b hb
    simp at hb
    unfold ow2; rw [if_pos (by omega)]
  · exact fun b hb => by rw [ow' b (T.w.lt hw hb)]; exact T.lw b hb
  · exact fun b hb => by rw [ow' b (T.o.lt hw hb)]; exact T.lo b hb
  · exact fun b hb => by rw [ow' b (T.n.lt hw hb)]; exact T.ln b hb
/-- One more is told of an attempt: what was written. -/
theorem push_w {H0 HA : Heap} {p : Nat} {ow : Nat → Nat} {J : Jb} {n : Int} {wh : Bool} {S : BS} {pt : List Value} {xm xo xr : Value} {vx : Nat} {x : Ev} (A : EA H0 HA p ow J n wh S pt xm xo xr vx x) {i q : Nat} (hi : i < 200) {t : Tr} {yr yw yo yi : Value}
    (hq : pt[i]? = some (ptr q)) (T : TrH HA ow i q t yr yw yo yi) (e : Int × Int) (hl : t.writes.length ≤ 100000) :
    ∃ HC HD, sAppend (HA.new 111 2 [iv e.1, iv e.2]) 111 2 16 yw (.slice (some ⟨HA.next, 0, none⟩) 1 0) = some (.slice (some ⟨HA.next + 1, 0, none⟩) (t.writes.length + 1) 0, HC) ∧ HC.store ⟨q, 1, none⟩ (.slice (some ⟨HA.next + 1, 0, none⟩) (t.writes.length + 1) 0) = some HD ∧
      HA.load ⟨q, 1, none⟩ = some yw ∧ (HA.new 111 2 [iv e.1, iv e.2]).load ⟨q, 1, none⟩ = some yw ∧
      EA H0 HD p (ow2 ow (HA.next + 1) (5 * i + 2)) J n wh { S with tries := S.tries.set i (some { t with writes := t.writes ++ [e] }) } pt xm xo xr vx x := by
  have hw := A.bk.on.wf
  have bq := hw.lt T.vq.bq
  have bv := hw.lt A.v.bq
  have lq := T.lq
  have lx := A.lx
  obtain ⟨HC, ap, own, wf, base, next, keep⟩ := own_push hw 16 T.w (e := [iv e.1, iv e.2]) rfl (by decide) (by omega)
  have ny : ∀ b, (ow b ≠ 5 * i + 2) → blkOf yw ≠ some b := fun b h1 h2 => h1 (T.lw b h2)
  have kp : ∀ b, b < HA.next → ow b ≠ 5 * i + 2 → HC.blk b = HA.blk b := fun b h1 h2 => by rw [keep b (by omega) (ny b h2)]; simp [show b ≠ HA.next by omega]
  have vq : Vr HC q 109 4 [yr, yw, yo, yi] := T.vq.keep base (kp q bq (by omega))
  have sq := vq.store 1 (.slice (some ⟨HA.next + 1, 0, none⟩) (t.writes.length + 1) 0) (by simp)
  have w3 : (HC.put q ([yr, yw, yo, yi].set 1 (.slice (some ⟨HA.next + 1, 0, none⟩) (t.writes.length + 1) 0))).WF := WF_put wf _ _
  have kp3 : ∀ b, b < HA.next → ow b ≠ 5 * i + 2 → b ≠ q → (HC.put q ([yr, yw, yo, yi].set 1 (.slice (some ⟨HA.next + 1, 0, none⟩) (t.writes.length + 1) 0))).blk b = HA.blk b := fun b h1 h2 h3 => by rw [← kp b h1 h2]; simp [h3]
  have ow' : ∀ b, b < HA.next → ow2 ow (HA.next + 1) (5 * i + 2) b = ow b := fun b hb => by unfold ow2; rw [if_neg (by omega)]
  have lt := fun (y : Value) (ety sz n : Nat) (cs : List Value) (h : Own HA ety sz n cs y) b (hb : blkOf y = some b) => h.lt hw hb
  refine ⟨HC, _, ap, sq, T.vq.load 1, ?_, ⟨A.bk.tset hi w3 base (by simp; omega) (fun b h1 h2 => kp3 b h1 (by omega) (fun h3 => by subst h3; omega)) ow' hq ⟨vq.put _, ?_, ?_, ?_, ?_, ?_, ?_, ?_, ?_, ?_⟩, A.v.keep base (kp3 vx bv (by omega) (fun h3 => by subst h3; omega)), by rw [ow' vx bv]; exact lx⟩⟩
  · exact (T.vq.on hw ((On.refl hw).new _ _ _)).load 1
  · exact T.r.keep (B_eq base) (fun b hb => kp3 b (T.r.lt hw hb) (by have := T.lr b hb; omega) (fun h3 => by subst h3; have := T.lr b hb; omega))
  · show Own _ _ _ (t.writes ++ [e]).length (c2 (t.writes ++ [e])) _
    rw [List.length_append, List.length_singleton, show c2 (t.writes ++ [e]) = c2 t.writes ++ [iv e.1, iv e.2] from c2_snoc _ _]
    exact own.keep (by simp) (fun b hb => by simp at hb; simp [show b ≠ q by omega])
  · exact T.o.keep (B_eq base) (fun b hb => kp3 b (T.o.lt hw hb) (by have := T.lo b hb; omega) (fun h3 => by subst h3; have := T.lo b hb; omega))
  · exact T.n.keep (B_eq base) (fun b hb => kp3 b (T.n.lt hw hb) (by have := T.ln b hb; omega) (fun h3 => by subst h3; have := T.ln b hb; omega))
  · rw [ow' q bq]; exact lq
  · exact fun b hb => by rw [ow' b (T.r.lt hw hb)]; exact T.lr b hb
  · intro b hb
    simp at hb
    unfold ow2; rw [if_pos (by omega)]
  · exact fun b hb => by rw [ow' b (T.o.lt hw hb)]; exact T.lo b hb
  · exact fun b hb => by rw [ow' b (T.n.lt hw hb)]; exact T.ln b hb
/-- One more is told of an attempt: what was put out. -/
theorem push_o {H0 HA : Heap} {p : Nat} {ow : Nat → Nat} {J : Jb} {n : Int} {wh : Bool} {S : BS} {pt : List Value} {xm xo xr : Value} {vx : Nat} {x : Ev} (A : EA H0 HA p ow J n wh S pt xm xo xr vx x) {i q : Nat} (hi : i < 200) {t : Tr} {yr yw yo yi : Value}
    (hq : pt[i]? = some (ptr q)) (T : TrH HA ow i q t yr yw yo yi) (e : Int) (hl : t.outs.length ≤ 100000) :
    ∃ HC HD, sAppend (HA.new 2 1 [iv e]) 2 1 8 yo (.slice (some ⟨HA.next, 0, none⟩) 1 0) = some (.slice (some ⟨HA.next + 1, 0, none⟩) (t.outs.length + 1) 0, HC) ∧ HC.store ⟨q, 2, none⟩ (.slice (some ⟨HA.next + 1, 0, none⟩) (t.outs.length + 1) 0) = some HD ∧
      HA.load ⟨q, 2, none⟩ = some yo ∧ (HA.new 2 1 [iv e]).load ⟨q, 2, none⟩ = some yo ∧
      EA H0 HD p (ow2 ow (HA.next + 1) (5 * i + 3)) J n wh { S with tries := S.tries.set i (some { t with outs := t.outs ++ [e] }) } pt xm xo xr vx x := by
  have hw := A.bk.on.wf
  have bq := hw.lt T.vq.bq
  have bv := hw.lt A.v.bq
  have lq := T.lq
  have lx := A.lx
  obtain ⟨HC, ap, own, wf, base, next, keep⟩ := own_push hw 8 T.o (e := [iv e]) rfl (by decide) (by omega)
  have ny : ∀ b, (ow b ≠ 5 * i + 3) → blkOf yo ≠ some b := fun b h1 h2 => h1 (T.lo b h2)
  have kp : ∀ b, b < HA.next → ow b ≠ 5 * i + 3 → HC.blk b = HA.blk b := fun b h1 h2 => by rw [keep b (by omega) (ny b h2)]; simp [show b ≠ HA.next by omega]
  have vq : Vr HC q 109 4 [yr, yw, yo, yi] := T.vq.keep base (kp q bq (by omega))
  have sq := vq.store 2 (.slice (some ⟨HA.next + 1, 0, none⟩) (t.outs.length + 1) 0) (by simp)
  have w3 : (HC.put q ([yr, yw, yo, yi].set 2 (.slice (some ⟨HA.next + 1, 0, none⟩) (t.outs.length + 1) 0))).WF := WF_put wf _ _
  have kp3 : ∀ b, b < HA.next → ow b ≠ 5 * i + 3 → b ≠ q → (HC.put q ([yr, yw, yo, yi].set 2 (.slice (some ⟨HA.next + 1, 0, none⟩) (t.outs.length + 1) 0))).blk b = HA.blk b := fun b h1 h2 h3 => by rw [← kp b h1 h2]; simp [h3]
  have ow' : ∀ b, b < HA.next → ow2 ow (HA.next + 1) (5 * i + 3) b = ow b := fun b hb => by unfold ow2; rw [if_neg (by omega)]
  have lt := fun (y : Value) (ety sz n : Nat) (cs : List Value) (h : Own HA ety sz n cs y) b (hb : blkOf y = some b) => h.lt hw hb
  refine ⟨HC, _, ap, sq, T.vq.load 2, ?_, ⟨A.bk.tset hi w3 base (by simp; omega) (fun b h1 h2 => kp3 b h1 (by omega) (fun h3 => by subst h3; omega)) ow' hq ⟨vq.put _, ?_, ?_, ?_, ?_, ?_, ?_, ?_, ?_, ?_⟩, A.v.keep base (kp3 vx bv (by omega) (fun h3 => by subst h3; omega)), by rw [ow' vx bv]; exact lx⟩⟩
  · exact (T.vq.on hw ((On.refl hw).new _ _ _)).load 2
  · exact T.r.keep (B_eq base) (fun b hb => kp3 b (T.r.lt hw hb) (by have := T.lr b hb; omega) (fun h3 => by subst h3; have := T.lr b hb; omega))
  · exact T.w.keep (B_eq base) (fun b hb => kp3 b (T.w.lt hw hb) (by have := T.lw b hb; omega) (fun h3 => by subst h3; have := T.lw b hb; omega))
  · show Own _ _ _ (t.outs ++ [e]).length (ci (t.outs ++ [e])) _
    rw [List.length_append, List.length_singleton, show ci (t.outs ++ [e]) = ci t.outs ++ [iv e] from R14.ci_append _ _]
    exact own.keep (by simp) (fun b hb => by simp at hb; simp [show b ≠ q by omega])
  · exact T.n.keep (B_eq base) (fun b hb => kp3 b (T.n.lt hw hb) (by have := T.ln b hb; omega) (fun h3 => by subst h3; have := T.ln b hb; omega))
  · rw [ow' q bq]; exact lq
  · exact fun b hb => by rw [ow' b (T.r.lt hw hb)]; exact T.lr b hb
  · exact fun b hb => by rw [ow' b (T.w.lt hw hb)]; exact T.lw b hb
  · intro b hb
    simp at hb
    unfold ow2; rw [if_pos (by omega)]
  · exact fun b hb => by rw [ow' b (T.n.lt hw hb)]; exact T.ln b hb
/-- One more is told of an attempt: what was put in. -/
theorem push_n {H0 HA : Heap} {p : Nat} {ow : Nat → Nat} {J : Jb} {n : Int} {wh : Bool} {S : BS} {pt : List Value} {xm xo xr : Value} {vx : Nat} {x : Ev} (A : EA H0 HA p ow J n wh S pt xm xo xr vx x) {i q : Nat} (hi : i < 200) {t : Tr} {yr yw yo yi : Value}
    (hq : pt[i]? = some (ptr q)) (T : TrH HA ow i q t yr yw yo yi) (e : Int × Int) (hl : t.intos.length ≤ 100000) :
    ∃ HC HD, sAppend (HA.new 97 2 [iv e.1, iv e.2]) 97 2 16 yi (.slice (some ⟨HA.next, 0, none⟩) 1 0) = some (.slice (some ⟨HA.next + 1, 0, none⟩) (t.intos.length + 1) 0, HC) ∧ HC.store ⟨q, 3, none⟩ (.slice (some ⟨HA.next + 1, 0, none⟩) (t.intos.length + 1) 0) = some HD ∧
      HA.load ⟨q, 3, none⟩ = some yi ∧ (HA.new 97 2 [iv e.1, iv e.2]).load ⟨q, 3, none⟩ = some yi ∧
      EA H0 HD p (ow2 ow (HA.next + 1) (5 * i + 4)) J n wh { S with tries := S.tries.set i (some { t with intos := t.intos ++ [e] }) } pt xm xo xr vx x := by
  have hw := A.bk.on.wf
  have bq := hw.lt T.vq.bq
  have bv := hw.lt A.v.bq
  have lq := T.lq
  have lx := A.lx
  obtain ⟨HC, ap, own, wf, base, next, keep⟩ := own_push hw 16 T.n (e := [iv e.1, iv e.2]) rfl (by decide) (by omega)
  have ny : ∀ b, (ow b ≠ 5 * i + 4) → blkOf yi ≠ some b := fun b h1 h2 => h1 (T.ln b h2)
  have kp : ∀ b, b < HA.next → ow b ≠ 5 * i + 4 → HC.blk b = HA.blk b := fun b h1 h2 => by rw [keep b (by omega) (ny b h2)]; simp [show b ≠ HA.next by omega]
  have vq : Vr HC q 109 4 [yr, yw, yo, yi] := T.vq.keep base (kp q bq (by omega))
  have sq := vq.store 3 (.slice (some ⟨HA.next + 1, 0, none⟩) (t.intos.length + 1) 0) (by simp)
  have w3 : (HC.put q ([yr, yw, yo, yi].set 3 (.slice (some ⟨HA.next + 1, 0, none⟩) (t.intos.length + 1) 0))).WF := WF_put wf _ _
  have kp3 : ∀ b, b < HA.next → ow b ≠ 5 * i + 4 → b ≠ q → (HC.put q ([yr, yw, yo, yi].set 3 (.slice (some ⟨HA.next + 1, 0, none⟩) (t.intos.length + 1) 0))).blk b = HA.blk b := fun b h1 h2 h3 => by rw [← kp b h1 h2]; simp [h3]
  have ow' : ∀ b, b < HA.next → ow2 ow (HA.next + 1) (5 * i + 4) b = ow b := fun b hb => by unfold ow2; rw [if_neg (by omega)]
  have lt := fun (y : Value) (ety sz n : Nat) (cs : List Value) (h : Own HA ety sz n cs y) b (hb : blkOf y = some b) => h.lt hw hb
  refine ⟨HC, _, ap, sq, T.vq.load 3, ?_, ⟨A.bk.tset hi w3 base (by simp; omega) (fun b h1 h2 => kp3 b h1 (by omega) (fun h3 => by subst h3; omega)) ow' hq ⟨vq.put _, ?_, ?_, ?_, ?_, ?_, ?_, ?_, ?_, ?_⟩, A.v.keep base (kp3 vx bv (by omega) (fun h3 => by subst h3; omega)), by rw [ow' vx bv]; exact lx⟩⟩
  · exact (T.vq.on hw ((On.refl hw).new _ _ _)).load 3
  · exact T.r.keep (B_eq base) (fun b hb => kp3 b (T.r.lt hw hb) (by have := T.lr b hb; omega) (fun h3 => by subst h3; have := T.lr b hb; omega))
  · exact T.w.keep (B_eq base) (fun b hb => kp3 b (T.w.lt hw hb) (by have := T.lw b hb; omega) (fun h3 => by subst h3; have := T.lw b hb; omega))
  · exact T.o.keep (B_eq base) (fun b hb => kp3 b (T.o.lt hw hb) (by have := T.lo b hb; omega) (fun h3 => by subst h3; have := T.lo b hb; omega))
  · show Own _ _ _ (t.intos ++ [e]).length (c2 (t.intos ++ [e])) _
    rw [List.length_append, List.length_singleton, show c2 (t.intos ++ [e]) = c2 t.intos ++ [iv e.1, iv e.2] from c2_snoc _ _]
    exact own.keep (by simp) (fun b hb => by simp at hb; simp [show b ≠ q by omega])
  · rw [ow' q bq]; exact lq
  · exact fun b hb => by rw [ow' b (T.r.lt hw hb)]; exact T.lr b hb
  · exact fun b hb => by rw [ow' b (T.w.lt hw hb)]; exact T.lw b hb
  · exact fun b hb => by rw [ow' b (T.o.lt hw hb)]; exact T.lo b hb
  · intro b hb
    simp at hb
    unfold ow2; rw [if_pos (by omega)]
end Go.Proofs.Ytjkfghekdcalhaa
