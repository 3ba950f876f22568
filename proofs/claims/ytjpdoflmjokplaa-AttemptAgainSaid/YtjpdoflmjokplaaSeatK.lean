/-
  Chapter 22: a whole log: reads, writes, outputs and reductions; its calls.
-/
import Derived.Test.YtjpdoflmjokplaaOtZa
import Derived.Test.YtjpdoflmjokplaaSeatJ
namespace Go.Proofs.Ytjpdoflmjokplaa
open Go.Ot Go.RowKit
set_option linter.unusedSimpArgs false
set_option linter.unusedVariables false
/-- What a log says. -/
structure LD where
  rs : List R3
  ws : List (Int × Int)
  os : List Int
  now : List Int
  many : Int
/-- Where its rows stand. -/
structure LX where
  xr : Value
  xw : Value
  xo : Value
  xp : Value
  xn : Value
structure LS (H : Heap) (lo hi p q : Nat) (ops : List Int) (mr mw mo : Int) (d : LD) (x : LX) : Prop where
  lg : LG H p d.rs d.ws mr mw x.xr x.xw x.xo (ptr q) mo
  oo : Own H 2 1 d.os.length (ci d.os) x.xo
  hp : HP H lo hi q ops d.now d.many x.xp x.xn
  nl : d.now.length = ops.length
  op : blkOf x.xo ≠ some p
  orr : ∀ b, blkOf x.xo = some b → blkOf x.xr ≠ some b ∧ blkOf x.xw ≠ some b
  hpp : p < lo ∨ hi ≤ p
  hr : ∀ b, blkOf x.xr = some b → b < lo ∨ hi ≤ b
  hww : ∀ b, blkOf x.xw = some b → b < lo ∨ hi ≤ b
  ho : ∀ b, blkOf x.xo = some b → b < lo ∨ hi ≤ b
  hi : hi ≤ H.next
/-- The log's own blocks. -/
def LX.own (x : LX) (lo hi p : Nat) (b : Nat) : Prop := b = p ∨ blkOf x.xr = some b ∨ blkOf x.xw = some b ∨ blkOf x.xo = some b ∨ (lo ≤ b ∧ b < hi)
structure LA (H H' : Heap) (lo hi p : Nat) (x x' : LX) : Prop where
  wf : H'.WF
  base : H'.base = H.base
  next : H.next ≤ H'.next
  keep : ∀ b, b < H.next → ¬ x.own lo hi p b → H'.blk b = H.blk b
  new : ∀ b, x'.own lo hi p b → x.own lo hi p b ∨ H.next ≤ b
theorem LA.refl {H : Heap} (hw : H.WF) (lo hi p : Nat) (x : LX) : LA H H lo hi p x x := ⟨hw, rfl, Nat.le_refl _, fun _ _ _ => rfl, fun _ h => .inl h⟩
theorem LS.on {H H' : Heap} {lo hi p q : Nat} {ops : List Int} {mr mw mo : Int} {d : LD} {x : LX} (hw : H.WF) (s : LS H lo hi p q ops mr mw mo d x) (hb : H'.base = H.base) (hn : H.next ≤ H'.next) (hk : ∀ b, b < H.next → H'.blk b = H.blk b) : LS H' lo hi p q ops mr mw mo d x :=
  ⟨s.lg.keep hw hb hk, s.oo.keep (B_eq hb) (fun b e => hk b (s.oo.lt hw e)), s.hp.frame hb (fun b _ h => hk b (Nat.lt_of_lt_of_le h s.hi)), s.nl, s.op, s.orr, s.hpp, s.hr, s.hww, s.ho, Nat.le_trans s.hi hn⟩
theorem LS.bounds {H : Heap} {lo hi p q : Nat} {ops : List Int} {mr mw mo : Int} {d : LD} {x : LX} (hw : H.WF) (s : LS H lo hi p q ops mr mw mo d x) : ∀ b, x.own lo hi p b → b < H.next := by
  rintro b (rfl | h | h | h | h)
  · exact hw.lt s.lg.bp
  · exact s.lg.ro.lt hw h
  · exact s.lg.wo.lt hw h
  · exact s.oo.lt hw h
  · exact Nat.lt_of_lt_of_le h.2 s.hi
/-- A call that turns reads or writes alone. -/
theorem LS.turn {H H' : Heap} {lo hi p q : Nat} {ops : List Int} {mr mw mo : Int} {d : LD} {x : LX} (hw : H.WF) (s : LS H lo hi p q ops mr mw mo d x) {rs' : List R3} {ws' : List (Int × Int)} {xr' xw' : Value}
    (l : Lg H H' p x.xr x.xw rs' ws' mr mw mo x.xo (ptr q) xr' xw') : LS H' lo hi p q ops mr mw mo { d with rs := rs', ws := ws' } { x with xr := xr', xw := xw' } ∧ LA H H' lo hi p x { x with xr := xr', xw := xw' } := by
  have hk : ∀ b, b < H.next → b ≠ p → blkOf x.xr ≠ some b → blkOf x.xw ≠ some b → H'.blk b = H.blk b := l.same
  have inHi : ∀ b, lo ≤ b → b < hi → b ≠ p ∧ blkOf x.xr ≠ some b ∧ blkOf x.xw ≠ some b := by
    intro b h1 h2
    refine ⟨fun e => ?_, fun e => ?_, fun e => ?_⟩
    · have := s.hpp; omega
    · have := s.hr b e; omega
    · have := s.hww b e; omega
  constructor
  · refine ⟨l.lg, s.oo.keep (B_eq l.base) (fun b e => hk b (s.oo.lt hw e) (fun e2 => s.op (e2 ▸ e)) (s.orr b e).1 (s.orr b e).2), s.hp.frame l.base (fun b h1 h2 => hk b (Nat.lt_of_lt_of_le h2 s.hi) (inHi b h1 h2).1 (inHi b h1 h2).2.1 (inHi b h1 h2).2.2), s.nl, s.op, ?_, s.hpp, ?_, ?_, s.ho, Nat.le_trans s.hi l.next⟩
    · intro b e
      have hlt := s.oo.lt hw e
      refine ⟨fun e2 => ?_, fun e2 => ?_⟩
      · rcases l.newR b e2 with h | h
        · exact (s.orr b e).1 h
        · omega
      · rcases l.newW b e2 with h | h
        · exact (s.orr b e).2 h
        · omega
    · intro b e
      rcases l.newR b e with h | h
      · exact s.hr b h
      · right; exact Nat.le_trans s.hi h
    · intro b e
      rcases l.newW b e with h | h
      · exact s.hww b h
      · right; exact Nat.le_trans s.hi h
  · refine ⟨l.wf, l.base, l.next, fun b hb ho => hk b hb (fun e => ho (.inl e)) (fun e => ho (.inr (.inl e))) (fun e => ho (.inr (.inr (.inl e)))), ?_⟩
    rintro b (h | h | h | h | h)
    · exact .inl (.inl h)
    · rcases l.newR b h with h2 | h2
      · exact .inl (.inr (.inl h2))
      · exact .inr h2
    · rcases l.newW b h with h2 | h2
      · exact .inl (.inr (.inr (.inl h2)))
      · exact .inr h2
    · exact .inl (.inr (.inr (.inr (.inl h))))
    · exact .inl (.inr (.inr (.inr (.inr h))))
theorem lnote_T {H : Heap} {lo hi p q : Nat} {ops : List Int} {mr mw mo : Int} {d : LD} {x : LX} (hw : H.WF) (s : LS H lo hi p q ops mr mw mo d x) (r : R3) (hl : d.rs.length ≤ 1000) :
    ∃ H' x', T Try.prog 7 [ptr p, .agg (row3 r).toArray] H (iv (noteC d.rs r mr)) H' ∧ LS H' lo hi p q ops mr mw mo { d with rs := noteL d.rs r mr } x' ∧ LA H H' lo hi p x x' := by
  obtain ⟨v, H', hT, rfl, xr', l⟩ := note_T hw s.lg r hl
  obtain ⟨s', a⟩ := s.turn hw l
  exact ⟨H', _, hT, s', a⟩
theorem lwrite_T {H : Heap} {lo hi p q : Nat} {ops : List Int} {mr mw mo : Int} {d : LD} {x : LX} (hw : H.WF) (s : LS H lo hi p q ops mr mw mo d x) (a v : Int) (hl : d.ws.length ≤ 1000) :
    ∃ H' x', T Try.prog 25 [ptr p, iv a, iv v] H (iv (writeC d.ws a mw)) H' ∧ LS H' lo hi p q ops mr mw mo { d with ws := writeL d.ws a v mw } x' ∧ LA H H' lo hi p x x' := by
  obtain ⟨y, H', hT, rfl, xw', l⟩ := write_T hw s.lg a v hl
  obtain ⟨s', a⟩ := s.turn hw l
  exact ⟨H', _, hT, s', a⟩
theorem LS.ld {H : Heap} {lo hi p q : Nat} {ops : List Int} {mr mw mo : Int} {d : LD} {x : LX} (s : LS H lo hi p q ops mr mw mo d x) :
    H.load ⟨p, 0, none⟩ = some x.xr ∧ H.load ⟨p, 1, none⟩ = some x.xw ∧ H.load ⟨p, 2, none⟩ = some x.xo ∧ H.load ⟨p, 3, none⟩ = some (ptr q) ∧ H.load ⟨p, 4, none⟩ = some (iv mr) ∧ H.load ⟨p, 5, none⟩ = some (iv mw) ∧ H.load ⟨p, 6, none⟩ = some (iv mo) := by
  refine ⟨?_, ?_, ?_, ?_, ?_, ?_, ?_⟩ <;> rw [load_at s.lg.hp s.lg.bp] <;> rfl
theorem lens_T {H : Heap} {lo hi p q : Nat} {ops : List Int} {mr mw mo : Int} {d : LD} {x : LX} (s : LS H lo hi p q ops mr mw mo d x) : T Try.prog 15 [ptr p] H (.tuple #[iv d.rs.length, iv d.ws.length, iv d.os.length]) H := by
  refine T_eq hm light15 ?_
  obtain ⟨l0, l1, l2, _⟩ := s.ld
  obtain ⟨a0, h0⟩ := s.lg.ro.len
  obtain ⟨a1, h1⟩ := s.lg.wo.len
  obtain ⟨a2, h2⟩ := s.oo.len
  rw [h0] at l0
  rw [h1] at l1
  rw [h2] at l2
  simp [L15, l0, l1, l2]
def emitC (os : List Int) (mo : Int) : Int := if (os.length : Int) = mo then 200 else 0
def emitL (os : List Int) (n mo : Int) : List Int := if (os.length : Int) = mo then os else os ++ [n]
theorem lemit_T {H : Heap} {lo hi p q : Nat} {ops : List Int} {mr mw mo : Int} {d : LD} {x : LX} (hw : H.WF) (s : LS H lo hi p q ops mr mw mo d x) (n : Int) (hl : d.os.length ≤ 1000) :
    ∃ H' x', T Try.prog 35 [ptr p, iv n] H (iv (emitC d.os mo)) H' ∧ LS H' lo hi p q ops mr mw mo { d with os := emitL d.os n mo } x' ∧ LA H H' lo hi p x x' := by
  have : ∃ v H', T Try.prog 35 [ptr p, iv n] H v H' ∧ v = iv (emitC d.os mo) ∧ ∃ x', LS H' lo hi p q ops mr mw mo { d with os := emitL d.os n mo } x' ∧ LA H H' lo hi p x x' := by
    refine T_by hm light35 ?_
    obtain ⟨l0, l1, l2, l3, l4, l5, l6⟩ := s.ld
    obtain ⟨a2, h2⟩ := s.oo.len
    have hnB := hw.next_ge
    have hpn := hw.lt s.lg.bp
    by_cases hf : (d.os.length : Int) = mo
    · have hb : ((d.os.length : Int) == mo) = true := by simpa using hf
      have e1 : emitC d.os mo = 200 := by simp [emitC, hf]
      have e2 : emitL d.os n mo = d.os := by simp [emitL, hf]
      rw [h2] at l2
      rw [e1, e2]
      simp [L35, l2, l6, hb]
      exact ⟨x, s, LA.refl hw lo hi p x⟩
    · have hb : ((d.os.length : Int) == mo) = false := by simpa using hf
      have e1 : emitC d.os mo = 0 := by simp [emitC, hf]
      have e2 : emitL d.os n mo = d.os ++ [n] := by simp [emitL, hf]
      obtain ⟨HS, hHS⟩ : ∃ HS, HS = H.new 2 1 [iv n] := ⟨_, rfl⟩
      have hwS : HS.WF := by rw [hHS]; exact WF_new hw _ _ _
      have nS : HS.next = H.next + 1 := by rw [hHS]; simp
      have kS : ∀ b, b < H.next → HS.blk b = H.blk b := fun b hb => by rw [hHS]; simp [show b ≠ H.next by omega]
      have sS := s.on hw (by rw [hHS]; rfl) (by omega) kS
      have src : srcCells HS 1 (.slice (some ⟨H.next, 0, none⟩) 1 0) = some (1, [iv n]) := by
        rw [hHS, src_at (ety := 2) (cs := [iv n]) (by simpa using hnB) (by simp) (by simp)]
        simp
      have ap := append_any (bytes := 8) sS.oo src (by decide) (by omega)
      obtain ⟨HA, hHA⟩ : ∃ HA, HA = (HS.drop x.xo).new 2 1 (ci d.os ++ [iv n]) := ⟨_, rfl⟩
      obtain ⟨m, hm'⟩ : ∃ m, m = d.os.length + 1 := ⟨_, rfl⟩
      rw [← hHA, nS, ← hm'] at ap
      have bA : HA.base = H.base := by rw [hHA, hHS]; simp
      have kA : ∀ b, b < H.next → blkOf x.xo ≠ some b → HA.blk b = H.blk b := by
        intro b hb ho
        rw [hHA, hHS]
        simp [show b ≠ H.next + 1 by omega, show b ≠ H.next by omega, blk_drop, ho]
      have bpA : HA.blk p = some ⟨71, 7, [x.xr, x.xw, x.xo, ptr q, iv mr, iv mw, iv mo]⟩ := by rw [kA p hpn s.op]; exact s.lg.bp
      have hpA : ¬ p < HA.B := by rw [B_eq bA]; exact s.lg.hp
      obtain ⟨xo', hxo'⟩ : ∃ xo' : Value, xo' = .slice (some ⟨H.next + 1, 0, none⟩) m 0 := ⟨_, rfl⟩
      obtain ⟨HP', hHP⟩ : ∃ HP', HP' = HA.put p [x.xr, x.xw, xo', ptr q, iv mr, iv mw, iv mo] := ⟨_, rfl⟩
      have st : HA.store ⟨p, 2, none⟩ xo' = some HP' := by
        rw [store_own hpA bpA, if_pos (by simp), hHP]
        rfl
      have bP : HP'.base = H.base := by rw [hHP]; simp [bA]
      have kP : ∀ b, b < H.next → b ≠ p → blkOf x.xo ≠ some b → HP'.blk b = H.blk b := fun b hb h1 h3 => by rw [hHP]; simp [h1, kA b hb h3]
      have hz : zerosA [iv 0] 1 = [iv 0] := rfl
      have hin : ∀ b, lo ≤ b → b < hi → b ≠ p ∧ blkOf x.xo ≠ some b := fun b h1 h3 => ⟨fun e => by have := s.hpp; omega, fun e => by have := s.ho b e; omega⟩
      have nP : HP'.next = H.next + 2 := by rw [hHP, hHA]; simp [nS]
      have l2' : H.load ⟨p, 2, none⟩ = some (.slice a2 d.os.length 0) := by rw [l2, h2]
      have ap' := ap
      rw [h2] at ap'
      rw [← hxo'] at ap'
      have stv : sStore HA 1 (.pointer (some ⟨p, 2, none⟩)) xo' = some HP' := by rw [hxo'] at st ⊢; rw [sStore_slice]; exact st
      have ldS : HS.load ⟨p, 2, none⟩ = some (.slice a2 d.os.length 0) := by rw [hHS]; exact load_newN hw l2' _ _ _
      rw [e1, e2]
      simp [L35, l2', l6, hb, hz, ← hHS, ap', stv, ldS]
      refine ⟨{ x with xo := xo' }, ⟨⟨?_, ?_, ?_, ?_, s.lg.pr, s.lg.pw, s.lg.rw⟩, ?_, ?_, s.nl, ?_, ?_, s.hpp, s.hr, s.hww, ?_, ?_⟩, ⟨?_, bP, by omega, ?_, ?_⟩⟩
      · rw [B_eq bP]; exact s.lg.hp
      · rw [hHP]; simp [bpA]
      · exact s.lg.ro.keep (B_eq bP) (fun b e => kP b (s.lg.ro.lt hw e) (fun e2 => s.lg.pr (e2 ▸ e)) (fun e2 => (s.orr b e2).1 e))
      · exact s.lg.wo.keep (B_eq bP) (fun b e => kP b (s.lg.wo.lt hw e) (fun e2 => s.lg.pw (e2 ▸ e)) (fun e2 => (s.orr b e2).2 e))
      · have q1 : (d.os ++ [n]).length = m := by simp [hm']
        have q2 : ci (d.os ++ [n]) = ci d.os ++ [iv n] := by simp [ci]
        show Own HP' 2 1 (d.os ++ [n]).length (ci (d.os ++ [n])) xo'
        rw [q1, q2, hxo']
        have hne : H.next + 1 ≠ p := by omega
        exact Own.mk (by simp [ci, hm']) (by rw [B_eq bP]; omega) (by rw [hHP, hHA]; simp [hne, nS])
      · exact s.hp.frame bP (fun b h1 h3 => kP b (Nat.lt_of_lt_of_le h3 s.hi) (hin b h1 h3).1 (hin b h1 h3).2)
      · show blkOf xo' ≠ some p
        rw [hxo']; simp; omega
      · intro b e
        have e' : blkOf xo' = some b := e
        rw [hxo'] at e'
        simp at e'
        refine ⟨fun e3 => ?_, fun e3 => ?_⟩
        · have := s.lg.ro.lt hw e3; omega
        · have := s.lg.wo.lt hw e3; omega
      · intro b e
        have e' : blkOf xo' = some b := e
        rw [hxo'] at e'
        simp at e'
        have := s.hi
        right; omega
      · have := s.hi; omega
      · rw [hHP, hHA]; exact WF_put (WF_new (WF_drop hwS _) _ _ _) _ _
      · intro b hb ho
        exact kP b hb (fun e => ho (.inl e)) (fun e => ho (.inr (.inr (.inr (.inl e)))))
      · rintro b (h | h | h | h | h)
        · exact .inl (.inl h)
        · exact .inl (.inr (.inl h))
        · exact .inl (.inr (.inr (.inl h)))
        · have e' : blkOf xo' = some b := h
          rw [hxo'] at e'
          simp at e'
          right; omega
        · exact .inl (.inr (.inr (.inr (.inr h))))
  obtain ⟨v, H', hT, rfl, x', h1, h2⟩ := this
  exact ⟨H', x', hT, h1, h2⟩
theorem linto_T {H : Heap} {lo hi p q : Nat} {ops : List Int} {mr mw mo : Int} {d : LD} {x : LX} (hw : H.WF) (s : LS H lo hi p q ops mr mw mo d x) (c n : Int) (hm64 : okI d.many ∧ d.many < 9223372036854775807) (hol : ops.length ≤ 1000) :
    ∃ H', T Try.prog 37 [ptr p, iv c, iv n] H (.bool (may ops c)) H' ∧ LS H' lo hi p q ops mr mw mo { d with now := addN ops d.now c n, many := if may ops c then d.many + 1 else d.many } x ∧ LA H H' lo hi p x x := by
  obtain ⟨v, H', hT, rfl, w', b', n', k', hp'⟩ := add_T hw s.hp s.nl c n hm64 hol
  have kk : ∀ b, (b < lo ∨ hi ≤ b) → H'.blk b = H.blk b := k'
  refine ⟨H', ?_, ⟨?_, ?_, hp', ?_, s.op, s.orr, s.hpp, s.hr, s.hww, s.ho, by rw [n']; exact s.hi⟩, ⟨w', b', by omega, fun b hb ho => kk b ?_, fun b h => .inl h⟩⟩
  · refine T_eq hm light37 ?_
    obtain ⟨l0, l1, l2, l3, l4, l5, l6⟩ := s.ld
    simp [L37, l3]
    refine goT_of hT ?_
    simp
  · exact ⟨by rw [B_eq b']; exact s.lg.hp, by rw [kk p s.hpp]; exact s.lg.bp, s.lg.ro.keep (B_eq b') (fun b e => kk b (s.hr b e)), s.lg.wo.keep (B_eq b') (fun b e => kk b (s.hww b e)), s.lg.pr, s.lg.pw, s.lg.rw⟩
  · exact s.oo.keep (B_eq b') (fun b e => kk b (s.ho b e))
  · show (addN ops d.now c n).length = ops.length
    unfold addN
    split
    · rw [List.length_set]; exact s.nl
    · exact s.nl
  · by_cases h1 : b < lo
    · exact .inl h1
    · right
      by_cases h2 : b < hi
      · exact absurd (.inr (.inr (.inr (.inr ⟨by omega, h2⟩)))) ho
      · omega
end Go.Proofs.Ytjpdoflmjokplaa
