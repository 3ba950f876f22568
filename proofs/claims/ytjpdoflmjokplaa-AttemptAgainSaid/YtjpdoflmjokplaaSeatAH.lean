/-
  Chapter 22: all that a log tells is the document's. Chapter 22: all that a log tells is the document's: the whole call.
-/
import Derived.Test.YtjpdoflmjokplaaSeatAF
namespace Go.Proofs.Ytjpdoflmjokplaa
open Go.Ot Go.RowKit
set_option linter.unusedSimpArgs false
set_option linter.unusedVariables false
set_option maxRecDepth 100000 in
theorem eqR3 (e : R3) (w : World) : (Op.equal 29 (.agg (row3 e).toArray) (.agg (row3 e).toArray)).run Try.prog w = .ok true w := by
  have hd : Op.equal 29 (.agg (row3 e).toArray) (.agg (row3 e).toArray) = Op.equalIn (9999 + 1) 29 (.agg (row3 e).toArray) (.agg (row3 e).toArray) := rfl
  have hf : ∃ f1 f2 f3 : Field, Try.prog.fieldsOf 29 = #[f1, f2, f3] ∧ f1.name ≠ "_" ∧ f2.name ≠ "_" ∧ f3.name ≠ "_" ∧ f1.offset = 0 ∧ f2.offset = 1 ∧ f3.offset = 2 ∧ Try.prog.underlying f1.type = some (.int .i64) ∧ Try.prog.underlying f2.type = some (.int .i64) ∧ Try.prog.underlying f3.type = some (.int .i64) ∧ Try.prog.plainKey f1.type = true ∧ Try.prog.plainKey f2.type = true ∧ Try.prog.plainKey f3.type = true ∧ Try.prog.underlying 29 = some (.struct #[f1, f2, f3]) := by
    unfold Program.fieldsOf
    rw [Try.underlying29]
    exact ⟨_, _, _, rfl, by decide, by decide, by decide, rfl, rfl, rfl, Try.underlying3, Try.underlying2, Try.underlying3, by kernel_rfl, by kernel_rfl, by kernel_rfl, rfl⟩
  obtain ⟨f1, f2, f3, hf, n1, n2, n3, o1, o2, o3, u1, u2, u3, k1, k2, k3, hu⟩ := hf
  rw [hd, run_equalIn_struct w 9999 29 _ _ (by rw [hf]; exact hu) (by kernel_rfl), hf]
  show (Op.eqFields 9999 (row3 e).toArray (row3 e).toArray [f1, f2, f3]).run Try.prog w = _
  rw [stepG (n := e.1) (m := e.1) w n1 k1 u1 (by rw [o1]; rfl) (by rw [o1]; rfl), if_pos rfl, stepG (n := e.2.1) (m := e.2.1) w n2 k2 u2 (by rw [o2]; rfl) (by rw [o2]; rfl), if_pos rfl, stepG (n := e.2.2) (m := e.2.2) w n3 k3 u3 (by rw [o3]; rfl) (by rw [o3]; rfl), if_pos rfl]
  rfl
theorem readK {H : Heap} (hw : H.WF) {p : Nat} {rs : List R3} {ws : List (Int × Int)} {mr mw mo : Int} {xr xw xo hq : Value} (h : LG H p rs ws mr mw xr xw xo hq mo) (a : Int) (hl : rs.length ≤ 1000) :
    T Try.prog 10 [ptr p, iv a] H (.tuple #[.agg (row3 (rowAt rs (rIdx a rs))).toArray, .bool (decide (0 ≤ rIdx a rs))]) H := by
  obtain ⟨v, H', hT, rfl, hs⟩ := read_T hw h a hl
  exact T_forget hT (fun b hb => hs b hb (by simp)) rfl
theorem holdsK {H : Heap} (hw : H.WF) {p : Nat} {rs : List R3} {ws : List (Int × Int)} {mr mw mo : Int} {xr xw xo hq : Value} (h : LG H p rs ws mr mw xr xw xo hq mo) {x : Value} {m : List Int} (hx : Ints H .i64 x m) (hl : rs.length ≤ 1000) :
    T Try.prog 8 [ptr p, x] H (.bool (holdsV rs m)) H := by
  obtain ⟨v, H', hT, rfl, hs⟩ := holds_T hw h hx hl
  exact T_forget hT (fun b hb => hs b hb (by simp)) rfl
def InvSame (H1 : Heap) (pv : Nat) (y : Value) (n : Nat) (t0 : Tm) (k : Nat) (t : Tm) (H : Heap) : Prop :=
  ∃ i : Nat, i + k = n ∧ t 0 = t0 0 ∧ t 2 = t0 2 ∧ t 3 = t0 3 ∧ t 4 = t0 4 ∧ t 6 = ptr pv ∧ t 11 = iv n ∧ t 14 = y ∧ t 15 = iv i ∧ H = H1
theorem same_loop {H : Heap} (hw : H.WF) {pv : Nat} {y : Value} {dd : DL} {rs : List R3} (V : Vr H pv 44 8 (dl dd)) (hy : Rws H 3 y (rs.map row3)) (hx : Rws H 3 dd.xr (rs.map row3)) (hl : rs.length ≤ 1000) {Q : Exit → Tm → Heap → Prop} {t : Tm}
    (t6 : t 6 = ptr pv) (t11 : t 11 = iv rs.length) (t14 : t 14 = y) (t15 : t 15 = iv 0)
    (hQ : ∀ t9, t9 0 = t 0 → t9 2 = t 2 → t9 3 = t 3 → t9 4 = t 4 → t9 6 = ptr pv → t9 14 = y → Q (.exit 0) t9 (rdy H)) : wpA Try.prog (.loop L13_1) Q t (rdy H) := by
  have l4 : H.load ⟨pv, 4, none⟩ = some dd.xr := V.load 4
  refine loop_at (InvSame H pv y rs.length t) rs.length ?_ ?_
  · exact ⟨0, by simp, rfl, rfl, rfl, rfl, t6, t11, t14, t15, rfl⟩
  · rintro k tt H1 ⟨i, hik, u0, u2, u3, u4, u6, u11, u14, u15, rfl⟩
    cases k with
    | zero =>
      have e1 : ¬ ((i : Int) < rs.length) := by omega
      have hq := fun (t9 : Tm) (h0 : t9 0 = tt 0) (h2 : t9 2 = tt 2) (h3 : t9 3 = tt 3) (h4 : t9 4 = tt 4) (h6 : t9 6 = tt 6) (h14 : t9 14 = tt 14) => hQ t9 (h0.trans u0) (h2.trans u2) (h3.trans u3) (h4.trans u4) (h6.trans u6) (h14.trans u14)
      simp [L13_1, u15, u11, e1]
      exact hq _ (by simp) (by simp) (by simp) (by simp) (by simp) (by simp)
    | succ k =>
      have hil : i < rs.length := by omega
      have e1 : ((i : Int) < rs.length) := by omega
      have e4 : IntKind.i64.wrap ((i : Int) + 1) = ((i + 1 : Nat) : Int) := by rw [w64 _ (by omega)]; omega
      obtain ⟨iN, hiN⟩ : ∃ n : Nat, n = i + 1 := ⟨_, rfl⟩
      rw [← hiN] at e4
      obtain ⟨b1, o1, c1, hy1, _, _, ld1⟩ := hy.at (i := i) (by simpa using hil)
      obtain ⟨b2, o2, c2, hx1, _, _, ld2⟩ := hx.at (i := i) (by simpa using hil)
      rw [List.length_map] at hy1 hx1
      simp only [List.getElem_map] at ld1 ld2
      have p0 := ld1 0 (by simp [row3])
      have p1 := ld1 1 (by simp [row3])
      have p2 := ld1 2 (by simp [row3])
      have q0 := ld2 0 (by simp [row3])
      have q1 := ld2 1 (by simp [row3])
      have q2 := ld2 2 (by simp [row3])
      simp [row3] at p0 p1 p2 q0 q1 q2
      have u14' := u14
      rw [hy1] at u14
      rw [hx1] at l4
      simp [L13_1, u15, u14, u11, u6, e1, l4, hil, p0, p1, p2, q0, q1, q2, e4]
      exact ⟨k, by omega, iN, by omega, by simp [u0], by simp [u2], by simp [u3], by simp [u4], by simp [u6], by simp [u11], by simp [u14'], by simp, rfl⟩
end Go.Proofs.Ytjpdoflmjokplaa
namespace Go.Proofs.Ytjpdoflmjokplaa
open Go.Ot Go.RowKit
set_option linter.unusedSimpArgs false
set_option linter.unusedVariables false
theorem Row.rws3 {H H1 : Heap} {l : List R3} {y : Value} (r : Row H H1 29 3 l.length (c3 l) y) : Rws H1 3 y (l.map row3) :=
  Own.rws (ety := 29) (by intro r hr; obtain ⟨q, _, rfl⟩ := List.mem_map.1 hr; rfl) (by rw [List.length_map]; exact r.own)
theorem Row.rws2 {H H1 : Heap} {l : List (Int × Int)} {y : Value} (r : Row H H1 92 2 l.length (c2 l) y) : Rws H1 2 y (l.map row2) :=
  Own.rws (ety := 92) (by intro r hr; obtain ⟨q, _, rfl⟩ := List.mem_map.1 hr; rfl) (by rw [List.length_map]; exact r.own)
section
variable {H : Heap} (hw : H.WF) {lo hi p q : Nat} {ops : List Int} {mr mw mo : Int} {d : LD} {x : LX} (s : LS H lo hi p q ops mr mw mo d x) {rd : List (Int × Int)} (hops : ops = rd.map (·.1)) (hol : ops.length ≤ 1000) {r : RL} {dd : DL} (hR : RD H mr mw mo rd r dd)
  (al : Alike ops mw d r) (l4 : r.rs.length ≤ 900) (l5 : r.ws.length ≤ 900) (l6 : r.os.length ≤ 900) (l7 : r.is.length ≤ 900) (oki : ∀ e ∈ r.is, okI e.2) (a : Int) {xm xz : Value} {m z : List Int} (hxm : Ints H .i64 xm m) (hz : Ints H .i64 xz z) (okz : ∀ n ∈ z, okI n) (hzl : z.length ≤ 1000000)
include hw s hops hol hR al l4 l5 l6 l7 oki hxm hz okz hzl
theorem same_T : T Try.prog 13 [ptr p, dA dd, iv a, xm, xz] H (.bool true) H := by
  refine T_seen hm light13 rfl ?_
  obtain ⟨a1, a2, a3, a4, a5⟩ := al
  have onH : On H H := ⟨hw, rfl, Nat.le_refl _, fun _ _ => rfl⟩
  obtain ⟨HA, hHA⟩ : ∃ HA, HA = H.new 44 8 (dl dd) := ⟨_, rfl⟩
  have onA : On H HA := by rw [hHA]; exact onH.new' _ _ _
  have VA : Vr HA H.next 44 8 (dl dd) := by rw [hHA]; exact Vr.mk' hw _ _ _
  have nA : HA.next = H.next + 1 := by rw [hHA]; rfl
  have sA := s.on hw onA.base onA.next onA.keep
  have C1 := lens_T sA
  obtain ⟨y1, H1, C2, row1⟩ := lreads_T onA.wf sA (by rw [a1]; omega)
  have on1 := onA.trans' row1.on
  have s1 := s.on hw on1.base on1.next on1.keep
  obtain ⟨y2, H2, C3, row2'⟩ := lwrites_T on1.wf s1 (by rw [a2]; omega)
  have on2 := on1.trans' row2'.on
  have s2 := s.on hw on2.base on2.next on2.keep
  obtain ⟨y3, H3, C5, row3'⟩ := louts_T on2.wf s2 (by rw [a3]; omega)
  have on3 := on2.trans' row3'.on
  have s3 := s.on hw on3.base on3.next on3.keep
  rw [a1] at C1 row1
  rw [a2] at C1 row2'
  rw [a3] at C1 row3'
  have R1 := hR.keep hw on1.base on1.keep
  have R2 := hR.keep hw on2.base on2.keep
  have R3' := hR.keep hw on3.base on3.keep
  have C4 := sames_T row2'.rws2 R2.hw (by omega)
  have C6 := rows_T (Own.ints (xs := r.os) row3'.own) R3'.ho (by omega)
  have V1 := VA.keep row1.base (row1.keep _ (by omega))
  have V2 := V1.keep row2'.base (row2'.keep _ (by have := row1.next; omega))
  have V3 := V2.keep row3'.base (row3'.keep _ (by have := row1.next; have := row2'.next; omega))
  obtain ⟨ar, cr, hxr⟩ := hR.hr.len
  obtain ⟨aw, cw, hxw⟩ := hR.hw.len
  obtain ⟨ao, co, hxo⟩ := hR.ho.len
  obtain ⟨ad, cd, hxd⟩ := hR.hd.twos.len
  rw [List.length_map] at hxr hxw
  obtain ⟨ay, hy1⟩ := row1.own.len
  have b4 : H1.load ⟨H.next, 4, none⟩ = some dd.xr := V1.load 4
  have b5 : H1.load ⟨H.next, 5, none⟩ = some dd.xw := V1.load 5
  have b6 : H1.load ⟨H.next, 6, none⟩ = some dd.xo := V1.load 6
  have e5 : H2.load ⟨H.next, 5, none⟩ = some dd.xw := V2.load 5
  have e6 : H2.load ⟨H.next, 6, none⟩ = some dd.xo := V2.load 6
  have f6 : H3.load ⟨H.next, 6, none⟩ = some dd.xo := V3.load 6
  have rws3 : Rws H3 3 y1 (r.rs.map row3) := (row1.rws3.keep on1.wf row2'.base row2'.keep).keep on2.wf row3'.base row3'.keep
  -- behind the loop
  have C7 := readK on3.wf s3.lg a (by rw [a1]; omega)
  rw [a1] at C7
  obtain ⟨i, hi⟩ : ∃ i, i = rIdx a r.rs := ⟨_, rfl⟩
  have hgi : i < r.rs.length := by rw [hi]; have := (fIdx_ge (isAt a) (r.rs.map row3)).2; rw [List.length_map] at this; exact this
  obtain ⟨rr, hrr⟩ : ∃ rr, rr = rowAt r.rs i := ⟨_, rfl⟩
  rw [← hi, ← hrr] at C7
  obtain ⟨H4, hH4⟩ : ∃ H4, H4 = H3.new 29 3 (row3 rr) := ⟨_, rfl⟩
  have on4 : On H3 H4 := by rw [hH4]; exact On.new' ⟨on3.wf, rfl, Nat.le_refl _, fun _ _ => rfl⟩ _ _ _
  have on4' := on3.trans' on4
  have st4 := new_storeA on3.wf 29 3 [iv 0, iv 0, iv 0] (row3 rr) rfl rfl (by decide)
  rw [← hH4] at st4
  have ld4 : H4.loadN ⟨H3.next, 0, none⟩ 0 3 = some (row3 rr) := by rw [hH4]; exact (Vr.mk' on3.wf 29 3 (row3 rr)).loadA rfl
  have s4 := s.on hw on4'.base on4'.next on4'.keep
  have R4 := hR.keep hw on4'.base on4'.keep
  have V4 := V3.keep on4.base (on4.keep _ (by have := row1.next; have := row2'.next; have := row3'.next; omega))
  have V4lt : H.next < H4.next := by have := row1.next; have := row2'.next; have := row3'.next; have := on4.next; omega
  have la4 : H4.loadN ⟨H.next, 0, none⟩ 0 8 = some (dl dd) := V4.loadA rfl
  have g5 : H4.load ⟨H.next, 5, none⟩ = some dd.xw := V4.load 5
  have g3 : H4.load ⟨H.next, 3, none⟩ = some dd.xd := V4.load 3
  have C8 := rreadK on4'.wf dd R4.hr a (by omega)
  rw [← hi] at C8
  have C9 := written_T on4'.wf s4 a (by rw [a2]; omega)
  rw [a2] at C9
  have C10 := rwrittenK on4'.wf dd R4.hw a (by omega)
  obtain ⟨j, hj⟩ : ∃ j, j = wIdx a r.ws := ⟨_, rfl⟩
  have hgj : j < r.ws.length := by rw [hj]; have := (fIdx_ge (isAt a) (r.ws.map row2)).2; rw [List.length_map] at this; exact this
  rw [← hj] at C9 C10
  have xm4 := hxm.keep hw on4'.base on4'.keep
  have xz4 := hz.keep hw on4'.base on4'.keep
  have C11 := holdsK on4'.wf s4.lg xm4 (by rw [a1]; omega)
  rw [a1] at C11
  have C12 := refHolds_T on4'.wf dd R4.hr xm4 (by omega)
  obtain ⟨v13, H5, C13, hQ⟩ := lonto_T on4'.wf s4 hol xz4 hzl
  obtain ⟨hv, hhv⟩ : ∃ b, b = holdsV r.rs m := ⟨_, rfl⟩
  rw [← hhv] at C11 C12
  obtain ⟨zz, hzz⟩ : ∃ b, b = (if 0 ≤ j then (r.ws.getD j.toNat (0, 0)).2 else 0) := ⟨_, rfl⟩
  rw [← hzz] at C9
  have hrl : rd.length = ops.length := by rw [hops, List.length_map]
  have hnl : d.now.length = ops.length := s.nl
  obtain ⟨d0, hd0⟩ : ∃ d0, d0 = dl dd := ⟨_, rfl⟩
  have hda : dA dd = .agg d0.toArray := by rw [hd0]
  have hd8 : d0.length = 8 := by rw [hd0]; rfl
  rw [hda] at C8 C10 C12 ⊢
  rw [← hd0] at hHA la4
  have sorted : True := trivial
  obtain ⟨r0, hr0⟩ : ∃ r0, r0 = row3 rr := ⟨_, rfl⟩
  have hr3 : r0.length = 3 := by rw [hr0]; rfl
  rw [← hr0] at C7 st4 ld4
  have hfin : ∀ t : Tm, t 0 = ptr p → t 2 = iv a → t 3 = xm → t 4 = xz → t 6 = ptr H.next → t 14 = y1 → True := fun _ _ _ _ _ _ _ => trivial
  rw [hxr] at b4
  rw [hxw] at b5
  rw [hxo] at b6
  have b5' : H1.load ⟨H.next, 5, none⟩ = some dd.xw := V1.load 5
  have b6' : H1.load ⟨H.next, 6, none⟩ = some dd.xo := V1.load 6
  rw [hxw] at e5 C4
  rw [hxo] at e6 f6 C6
  simp [L13, hd8]
  rw [← hHA]
  refine goT_of C1 ?_
  simp
  refine goT_of C2 ?_
  simp [b4, b5, b6, hy1]
  refine goT_of C3 ?_
  simp [e5, b5]
  refine goT_of C4 ?_
  simp [e6]
  refine goT_of C5 ?_
  simp [f6, e6]
  refine goT_of C6 ?_
  simp
  refine same_loop on3.wf V3 rws3 R3'.hr (by omega) (by simp) (by simp) (by simp [hy1]) (by simp) ?_
  intro t9 u0 u2 u3 u4 u6 u14
  simp at u0 u2 u3 u4
  have rws4 := rws3.keep on3.wf on4.base on4.keep
  have Q8 : ∃ b8 : Bool, b8 = decide (0 ≤ j) := ⟨_, rfl⟩
  have wj : 0 ≤ j → ∃ b off c, dd.xw = .slice (some ⟨b, off, none⟩) r.ws.length c ∧ H4.load ⟨b, off + j.toNat * 2 + 1, none⟩ = some (iv zz) := by
    intro h0
    obtain ⟨b, off, c, h1, _, _, h2⟩ := R4.hw.at (i := j.toNat) (by rw [List.length_map]; omega)
    rw [List.length_map] at h1
    have h3 := h2 1 (by simp [row2])
    have hjl : j.toNat < r.ws.length := by omega
    simp [row2] at h3
    exact ⟨b, off, c, h1, by rw [h3, hzz, if_pos h0]; simp [List.getD, hjl]⟩
  have onHH4 : ∀ b, b < H.next → H4.blk b = H.blk b := on4'.keep
  have bR4 : H4.base = H.base := on4'.base
  have V5 : ∀ G : Heap, On H4 G → G.loadN ⟨H.next, 0, none⟩ 0 8 = some (dl dd) ∧ G.load ⟨H.next, 3, none⟩ = some dd.xd := by
    intro G o
    have V := V4.keep o.base (o.keep _ (V4lt))
    exact ⟨V.loadA rfl, V.load 3⟩
  obtain ⟨az, cz, hxz⟩ := hz.len
  have onF : ∀ G : Heap, On H4 G → ∀ b, b < H.next → G.blk b = H.blk b := fun G o => (on4'.trans' o).keep
  -- the last part, by whether the numbers ahead are as many
  have last : (z.length = ops.length ∧ ∃ y o H6, v13 = .tuple #[y, .bool true] ∧ On H4 H5 ∧ T Try.prog 43 [dA dd, xz] H5 o H6 ∧ T Try.prog 18 [y, o] H6 (.bool true) H6 ∧ On H4 H6 ∧ notTup y = true ∧ y.cells = #[y] ∧ notTup o = true) ∨ (z.length ≠ ops.length ∧ v13 = .tuple #[.slice none 0 0, .bool false] ∧ H5 = H4) := by
    unfold OntoQ at hQ
    rw [hnl] at hQ
    by_cases hzo : z.length = ops.length
    · rw [if_pos hzo] at hQ
      obtain ⟨y, hv, og⟩ := hQ
      have on5 : On H4 H5 := ⟨og.wf, og.base, og.next, Og.olds og⟩
      have on5' := on4'.trans' on5
      have R5 := hR.keep hw on5'.base on5'.keep
      obtain ⟨o, H6, T6, row6⟩ := rlogOnto_T on5.wf dd R5.hd.twos R5.hi (hz.keep hw on5'.base on5'.keep) (by rw [hzo, hrl]) okz (by rw [hrl]; omega) (by omega) oki
      rw [hrl, ← hops, ← a4] at row6
      have i1 : Ints H6 .i64 y (ontoN ops z d.now ops.length) := (Own.ints (ety := 2) (n := ops.length) og.own).keep on5.wf row6.base row6.keep
      have i2 : Ints H6 .i64 o (ontoN ops z d.now ops.length) := Own.ints (ety := 2) (n := ops.length) row6.own
      obtain ⟨ya, hya⟩ := og.own.len
      obtain ⟨oa, hoa⟩ := row6.own.len
      exact .inl ⟨hzo, y, o, H6, hv, on5, T6, rows_T i1 i2 (by rw [ontoN_len]; omega), on5.trans' row6.on, by rw [hya]; rfl, by rw [hya]; rfl, by rw [hoa]; rfl⟩
    · rw [if_neg hzo] at hQ
      exact .inr ⟨hzo, hQ.1, hQ.2⟩
  by_cases h0 : 0 ≤ i
  · obtain ⟨n, rfl⟩ : ∃ n : Nat, i = n := ⟨i.toNat, by omega⟩
    have hn : n < r.rs.length := by omega
    obtain ⟨b, off, c, h1, _, h2, _⟩ := rws4.at (i := n) (by simpa using hn)
    rw [List.length_map] at h1
    simp only [List.getElem_map] at h2
    have hrn : rr = r.rs[n] := by rw [hrr]; unfold rowAt; rw [if_pos h0, Int.toNat_natCast]; simp [List.getD, hn]
    rw [← hrn, ← hr0] at h2
    have u14' := u14
    rw [h1] at u14'
    simp [u0, u2]
    refine goT_of C7 ?_
    simp [st4, u6, la4, u2]
    refine goT_of C8 ?_
    simp [h0, ld4, u14', hn, h2]
    rw [wpP_eqR0, hr0]
    refine goE_of (xs := (row3 rr).toArray) (ys := (row3 rr).toArray) rfl rfl (eqR3 rr) ?_
    simp [u0, u2]
    refine goT_of C9 ?_
    simp [u6, la4, u2]
    refine goT_of C10 ?_
    by_cases hj0 : 0 ≤ j
    · obtain ⟨bw, ow, cw', hw1, hw2⟩ := wj hj0
      obtain ⟨jn, rfl⟩ : ∃ n : Nat, j = n := ⟨j.toNat, by omega⟩
      have hjn : jn < r.ws.length := by omega
      have g5' := g5
      rw [hw1] at g5'
      simp at hw2
      simp [hj0, u6, g5', hjn, hw2, u0, u3]
      refine goT_of C11 ?_
      simp [u6, la4, u3]
      refine goT_of C12 ?_
      simp [u0, u4]
      rcases last with ⟨hzo, y, o, H6, rfl, on5, T6, T7, on6, ny, cy, no⟩ | ⟨hzo, rfl, rfl⟩
      · obtain ⟨l5a, l53⟩ := V5 H5 on5
        rw [hxd] at l53
        rw [hda] at T6
        rw [← hd0] at l5a
        have hzr : z.length = rd.length := by omega
        refine goT_of C13 ?_
        simp [u4, u6, l53, hzr, ny, cy, l5a, hxz]
        rw [← hzr, ← hxz]
        refine goT_of T6 ?_
        simp
        refine goT_of T7 ?_
        simp
        exact onF _ on6
      · have g3' := g3
        rw [hxd] at g3'
        have hzr : ¬ z.length = rd.length := by omega
        have hzb : ((z.length : Int) == rd.length) = false := by simpa using hzr
        have hzb2 : ((z.length : Int) != rd.length) = true := by rw [bne, hzb]; rfl
        refine goT_of C13 ?_
        simp [u4, u6, g3', hzr, hzb, hzb2, hxz]
        exact onHH4
    · have hz0 : zz = 0 := by rw [hzz, if_neg hj0]
      simp [hj0, hz0, u0, u3]
      refine goT_of C11 ?_
      simp [u6, la4, u3]
      refine goT_of C12 ?_
      simp [u0, u4]
      rcases last with ⟨hzo, y, o, H6, rfl, on5, T6, T7, on6, ny, cy, no⟩ | ⟨hzo, rfl, rfl⟩
      · obtain ⟨l5a, l53⟩ := V5 H5 on5
        rw [hxd] at l53
        rw [hda] at T6
        rw [← hd0] at l5a
        have hzr : z.length = rd.length := by omega
        refine goT_of C13 ?_
        simp [u4, u6, l53, hzr, ny, cy, l5a, hxz]
        rw [← hzr, ← hxz]
        refine goT_of T6 ?_
        simp
        refine goT_of T7 ?_
        simp
        exact onF _ on6
      · have g3' := g3
        rw [hxd] at g3'
        have hzr : ¬ z.length = rd.length := by omega
        have hzb : ((z.length : Int) == rd.length) = false := by simpa using hzr
        have hzb2 : ((z.length : Int) != rd.length) = true := by rw [bne, hzb]; rfl
        refine goT_of C13 ?_
        simp [u4, u6, g3', hzr, hzb, hzb2, hxz]
        exact onHH4
  · have hrn : rr = (0, 0, 0) := by rw [hrr]; unfold rowAt; rw [if_neg h0]
    have hr00 : r0 = row3 (0, 0, 0) := by rw [hr0, hrn]
    simp [u0, u2]
    refine goT_of C7 ?_
    simp [st4, u6, la4, u2]
    refine goT_of C8 ?_
    simp [h0, ld4, hr00]
    rw [wpP_eqR0]
    refine goE_of (xs := (row3 (0, 0, 0)).toArray) (ys := (row3 (0, 0, 0)).toArray) rfl rfl (eqR3 (0, 0, 0)) ?_
    simp [u0, u2]
    refine goT_of C9 ?_
    simp [u6, la4, u2]
    refine goT_of C10 ?_
    by_cases hj0 : 0 ≤ j
    · obtain ⟨bw, ow, cw', hw1, hw2⟩ := wj hj0
      obtain ⟨jn, rfl⟩ : ∃ n : Nat, j = n := ⟨j.toNat, by omega⟩
      have hjn : jn < r.ws.length := by omega
      have g5' := g5
      rw [hw1] at g5'
      simp at hw2
      simp [hj0, u6, g5', hjn, hw2, u0, u3]
      refine goT_of C11 ?_
      simp [u6, la4, u3]
      refine goT_of C12 ?_
      simp [u0, u4]
      rcases last with ⟨hzo, y, o, H6, rfl, on5, T6, T7, on6, ny, cy, no⟩ | ⟨hzo, rfl, rfl⟩
      · obtain ⟨l5a, l53⟩ := V5 H5 on5
        rw [hxd] at l53
        rw [hda] at T6
        rw [← hd0] at l5a
        have hzr : z.length = rd.length := by omega
        refine goT_of C13 ?_
        simp [u4, u6, l53, hzr, ny, cy, l5a, hxz]
        rw [← hzr, ← hxz]
        refine goT_of T6 ?_
        simp
        refine goT_of T7 ?_
        simp
        exact onF _ on6
      · have g3' := g3
        rw [hxd] at g3'
        have hzr : ¬ z.length = rd.length := by omega
        have hzb : ((z.length : Int) == rd.length) = false := by simpa using hzr
        have hzb2 : ((z.length : Int) != rd.length) = true := by rw [bne, hzb]; rfl
        refine goT_of C13 ?_
        simp [u4, u6, g3', hzr, hzb, hzb2, hxz]
        exact onHH4
    · have hz0 : zz = 0 := by rw [hzz, if_neg hj0]
      simp [hj0, hz0, u0, u3]
      refine goT_of C11 ?_
      simp [u6, la4, u3]
      refine goT_of C12 ?_
      simp [u0, u4]
      rcases last with ⟨hzo, y, o, H6, rfl, on5, T6, T7, on6, ny, cy, no⟩ | ⟨hzo, rfl, rfl⟩
      · obtain ⟨l5a, l53⟩ := V5 H5 on5
        rw [hxd] at l53
        rw [hda] at T6
        rw [← hd0] at l5a
        have hzr : z.length = rd.length := by omega
        refine goT_of C13 ?_
        simp [u4, u6, l53, hzr, ny, cy, l5a, hxz]
        rw [← hzr, ← hxz]
        refine goT_of T6 ?_
        simp
        refine goT_of T7 ?_
        simp
        exact onF _ on6
      · have g3' := g3
        rw [hxd] at g3'
        have hzr : ¬ z.length = rd.length := by omega
        have hzb : ((z.length : Int) == rd.length) = false := by simpa using hzr
        have hzb2 : ((z.length : Int) != rd.length) = true := by rw [bne, hzb]; rfl
        refine goT_of C13 ?_
        simp [u4, u6, g3', hzr, hzb, hzb2, hxz]
        exact onHH4
end
end Go.Proofs.Ytjpdoflmjokplaa
