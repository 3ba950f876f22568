/-
  A small program logic over the model's World: abstract values and heaps. Part A: how an abstract value stands to a concrete one.
-/
import Derived.WalkKit
import Derived.WalkLawsBesides
set_option linter.unusedVariables false
set_option linter.unusedSimpArgs false
namespace Go.Ot

/-- Two lists, element by element. -/
inductive All2 {α β : Type} (R : α → β → Prop) : List α → List β → Prop
  | nil : All2 R [] []
  | cons {a : α} {b : β} {l : List α} {m : List β} : R a b → All2 R l m → All2 R (a :: l) (b :: m)

namespace All2
variable {α β : Type} {R S : α → β → Prop}
theorem length {l : List α} {m : List β} (h : All2 R l m) : l.length = m.length := by
  induction h with
  | nil => rfl
  | cons _ _ ih => simp [ih]
theorem get {l : List α} {m : List β} (h : All2 R l m) : ∀ {i : Nat} {a : α}, l[i]? = some a → ∃ b, m[i]? = some b ∧ R a b := by
  induction h with
  | nil => intro i a h; simp at h
  | cons hr _ ih =>
    intro i a h
    cases i with
    | zero => simp at h; subst h; exact ⟨_, by simp, hr⟩
    | succ i => simp at h; obtain ⟨b, hb, hR⟩ := ih h; exact ⟨b, by simpa using hb, hR⟩
theorem get' {l : List α} {m : List β} (h : All2 R l m) : ∀ {i : Nat} {b : β}, m[i]? = some b → ∃ a, l[i]? = some a ∧ R a b := by
  induction h with
  | nil => intro i a h; simp at h
  | cons hr _ ih =>
    intro i a h
    cases i with
    | zero => simp at h; subst h; exact ⟨_, by simp, hr⟩
    | succ i => simp at h; obtain ⟨b, hb, hR⟩ := ih h; exact ⟨b, by simpa using hb, hR⟩
theorem imp (hRS : ∀ a b, R a b → S a b) {l : List α} {m : List β} (h : All2 R l m) : All2 S l m := by
  induction h with
  | nil => exact .nil
  | cons hr _ ih => exact .cons (hRS _ _ hr) ih
theorem append {l l' : List α} {m m' : List β} (h : All2 R l m) (h' : All2 R l' m') : All2 R (l ++ l') (m ++ m') := by
  induction h with
  | nil => exact h'
  | cons hr _ ih => exact .cons hr ih
theorem take {l : List α} {m : List β} (h : All2 R l m) : ∀ n, All2 R (l.take n) (m.take n) := by
  induction h with
  | nil => intro n; simp; exact .nil
  | cons hr _ ih => intro n; cases n with
    | zero => exact .nil
    | succ n => exact .cons hr (ih n)
theorem drop {l : List α} {m : List β} (h : All2 R l m) : ∀ n, All2 R (l.drop n) (m.drop n) := by
  induction h with
  | nil => intro n; simp; exact .nil
  | cons hr ht ih => intro n; cases n with
    | zero => exact .cons hr ht
    | succ n => exact ih n
theorem set {l : List α} {m : List β} (h : All2 R l m) {a : α} {b : β} (hab : R a b) : ∀ n, All2 R (l.set n a) (m.set n b) := by
  induction h with
  | nil => intro n; simp; exact .nil
  | cons hr ht ih => intro n; cases n with
    | zero => exact .cons hab ht
    | succ n => exact .cons hr (ih n)
theorem of_get {l : List α} {m : List β} (hl : l.length = m.length) (h : ∀ (i : Nat) (a : α) (b : β), l[i]? = some a → m[i]? = some b → R a b) : All2 R l m := by
  induction l generalizing m with
  | nil => cases m with
    | nil => exact .nil
    | cons b m => simp at hl
  | cons a l ih => cases m with
    | nil => simp at hl
    | cons b m =>
      exact .cons (h 0 a b (by simp) (by simp)) (ih (by simpa using hl) (fun i a' b' h1 h2 => h (i + 1) a' b' (by simpa using h1) (by simpa using h2)))
theorem of_same {T : α → α → Prop} {l : List α} (h : ∀ a ∈ l, T a a) : All2 T l l := by
  induction l with
  | nil => exact .nil
  | cons a l ih => exact .cons (h a (by simp)) (ih (fun b hb => h b (by simp [hb])))
theorem exists_right {l : List α} (h : ∀ a ∈ l, ∃ b, R a b) : ∃ m, All2 R l m := by
  induction l with
  | nil => exact ⟨[], .nil⟩
  | cons a l ih =>
    obtain ⟨b, hb⟩ := h a (by simp)
    obtain ⟨m, hm⟩ := ih (fun b hb => h b (by simp [hb]))
    exact ⟨b :: m, .cons hb hm⟩
theorem forall_right {l : List α} {m : List β} (h : All2 R l m) {p : β → Prop} (hp : ∀ a b, R a b → p b) : ∀ b ∈ m, p b := by
  induction h with
  | nil => intro b hb; cases hb
  | cons hr _ ih =>
    intro b hb
    rcases List.mem_cons.1 hb with rfl | hb
    · exact hp _ _ hr
    · exact ih b hb
end All2

/-- How the numbers of own blocks stand: from B on they are the call's own, below n they are in use; ρ: the block itself, and how many elements it bears. -/
structure Cx where
  B : Nat
  n : Nat
  ρ : Nat → Nat × Nat
  N : Nat

def Cx.ok (c : Cx) (a : Addr) : Prop := a.block < c.B ∨ (a.block < c.n ∧ a.spot = none)
def Cx.addr (c : Cx) (a : Addr) : Addr := if a.block < c.B then a else ⟨(c.ρ a.block).1, a.off, none⟩
/-- A map's number. -/
def Cx.mp (c : Cx) (m : Nat) : Nat := if m < c.B then m else (c.ρ m).1

/-- A value of one cell, no interface, no function. A slice's third number: 0: it begins where its row begins and goes to the row's end; 1: it goes to its own end and no further; else: who knows. -/
def r0 (c : Cx) : Value → Value → Prop
  | .bool b, v' => v' = .bool b
  | .int k n, v' => v' = .int k n
  | .string s, v' => v' = .string s
  | .pointer none, v' => v' = .pointer none
  | .pointer (some a), v' => c.ok a ∧ v' = .pointer (some (c.addr a))
  | .slice none n cap, v' => v' = .slice none n cap
  | .slice (some a) n cap, v' =>
    c.ok a ∧ ∃ a' cap', v' = .slice (some a') n cap' ∧ n ≤ cap' ∧ (0 < n → a' = c.addr a) ∧
      (cap = 0 → ¬ a.block < c.B ∧ a.off = 0 ∧ a' = c.addr a ∧ cap' = (c.ρ a.block).2) ∧ (cap = 1 → cap' = n)
  | .nilIface, v' => v' = .nilIface
  | .nilFunc, v' => v' = .nilFunc
  | .map none, v' => v' = .map none
  | .map (some m), v' => (m < c.B ∨ m < c.n) ∧ v' = .map (some (c.mp m))
  | _, _ => False

/-- Values in which no address stands. -/
def plain0 : Value → Bool
  | .bool _ | .int _ _ | .string _ | .pointer none | .slice none _ _ | .nilIface | .nilFunc | .map none => true
  | _ => false
/-- A struct in which no address stands. -/
def plainAgg : Value → Bool
  | .agg cs => cs.toList.all plain0
  | _ => false
/-- What an interface holds. -/
def r0i (c : Cx) (v u : Value) : Prop := r0 c v u ∨ (plainAgg v = true ∧ u = v)
/-- A value of one cell. -/
def r1 (c : Cx) : Value → Value → Prop
  | .iface t v, v' => ∃ u, v' = .iface t u ∧ r0i c v u
  | .func fn first captured, v' => ∃ f' c', v' = .func fn f' c' ∧ All2 (r0 c) first.toList f'.toList ∧ All2 (r0 c) captured.toList c'.toList
  | v, v' => r0 c v v'

/-- A value of a variable. -/
def r2 (c : Cx) : Value → Value → Prop
  | .agg cs, v' => ∃ cs', v' = .agg cs' ∧ All2 (r1 c) cs.toList cs'.toList
  | v, v' => r1 c v v'

/-- Whatever stands in a slot. -/
def r3 (c : Cx) : Value → Value → Prop
  | .tuple vs, v' => ∃ vs', v' = .tuple vs' ∧ All2 (r2 c) vs.toList vs'.toList
  | v, v' => r2 c v v'

/-- c' knows all that c knows. -/
structure Cx.le (c c' : Cx) : Prop where
  B : c'.B = c.B
  n : c.n ≤ c'.n
  ρ : ∀ b, b < c.n → c'.ρ b = c.ρ b
  N : c'.N = c.N
theorem Cx.le.refl (c : Cx) : c.le c := ⟨rfl, Nat.le_refl _, fun _ _ => rfl, rfl⟩
theorem Cx.le.trans {a b c : Cx} (h : a.le b) (h' : b.le c) : a.le c :=
  ⟨h'.B.trans h.B, Nat.le_trans h.n h'.n, fun x hx => (h'.ρ x (Nat.lt_of_lt_of_le hx h.n)).trans (h.ρ x hx), h'.N.trans h.N⟩
theorem Cx.le.ok {c c' : Cx} (h : c.le c') {a : Addr} (ha : c.ok a) : c'.ok a := by
  rcases ha with ha | ⟨ha, hs⟩
  · exact .inl (by rw [h.B]; exact ha)
  · exact .inr ⟨Nat.lt_of_lt_of_le ha h.n, hs⟩
theorem Cx.le.addr {c c' : Cx} (h : c.le c') {a : Addr} (ha : c.ok a) : c'.addr a = c.addr a := by
  unfold Cx.addr
  rw [h.B]
  rcases ha with ha | ⟨ha, hs⟩
  · simp [ha]
  · rw [h.ρ _ ha]
theorem r0_mono {c c' : Cx} (h : c.le c') : ∀ {v v' : Value}, r0 c v v' → r0 c' v v' := by
  intro v v' hv
  cases v with
  | pointer a => cases a with
    | none => exact hv
    | some a => exact ⟨h.ok hv.1, by rw [h.addr hv.1]; exact hv.2⟩
  | slice a n cap => cases a with
    | none => exact hv
    | some a =>
      obtain ⟨h1, a', cap', h3, h4, h5, h6, h7⟩ := hv
      refine ⟨h.ok h1, a', cap', h3, h4, by rw [h.addr h1]; exact h5, ?_, h7⟩
      rw [h.B, h.addr h1]
      intro hc
      obtain ⟨q1, q2, q3, q4⟩ := h6 hc
      exact ⟨q1, q2, q3, by rw [h.ρ _ (h1.resolve_left q1).1]; exact q4⟩
  | map m => cases m with
    | none => exact hv
    | some m =>
      obtain ⟨h1, h2⟩ := hv
      refine ⟨by rw [h.B]; exact h1.imp id (fun h3 => Nat.lt_of_lt_of_le h3 h.n), ?_⟩
      rw [h2]
      unfold Cx.mp
      rw [h.B]
      by_cases hb : m < c.B
      · simp [hb]
      · simp only [hb, if_false]; rw [h.ρ _ (h1.resolve_left hb)]
  | _ => exact hv
theorem r0i_mono {c c' : Cx} (h : c.le c') {v v' : Value} (hv : r0i c v v') : r0i c' v v' := hv.imp (r0_mono h) id
theorem r1_mono {c c' : Cx} (h : c.le c') : ∀ {v v' : Value}, r1 c v v' → r1 c' v v' := by
  intro v v' hv
  cases v with
  | iface t v => obtain ⟨u, hu, hr⟩ := hv; exact ⟨u, hu, r0i_mono h hr⟩
  | func fn first captured =>
    obtain ⟨f', c'', hu, hr, hr'⟩ := hv
    exact ⟨f', c'', hu, hr.imp (fun _ _ => r0_mono h), hr'.imp (fun _ _ => r0_mono h)⟩
  | _ => simp only [r1] at hv ⊢; exact r0_mono h hv
theorem r2_mono {c c' : Cx} (h : c.le c') : ∀ {v v' : Value}, r2 c v v' → r2 c' v v' := by
  intro v v' hv
  cases v with
  | agg cs => obtain ⟨u, hu, hr⟩ := hv; exact ⟨u, hu, hr.imp (fun _ _ => r1_mono h)⟩
  | _ => simp only [r2] at hv ⊢; exact r1_mono h hv
theorem r3_mono {c c' : Cx} (h : c.le c') : ∀ {v v' : Value}, r3 c v v' → r3 c' v v' := by
  intro v v' hv
  cases v with
  | tuple cs => obtain ⟨u, hu, hr⟩ := hv; exact ⟨u, hu, hr.imp (fun _ _ => r2_mono h)⟩
  | _ => simp only [r3] at hv ⊢; exact r2_mono h hv

def plain1 : Value → Bool
  | .iface _ v => plain0 v || plainAgg v
  | .func _ f c => f.toList.all plain0 && c.toList.all plain0
  | v => plain0 v
def plain2 : Value → Bool
  | .agg cs => cs.toList.all plain1
  | v => plain1 v
def plain3 : Value → Bool
  | .tuple cs => cs.toList.all plain2
  | v => plain2 v
theorem plain0_self {c : Cx} {v : Value} (h : plain0 v = true) : r0 c v v := by
  cases v <;> simp [plain0] at h <;> (try (simp [r0]; done))
  · rename_i a; cases a <;> simp [plain0] at h; rfl
  · rename_i a n k; cases a <;> simp [plain0] at h; rfl
  · rename_i a; cases a <;> simp [plain0] at h; rfl
theorem plain1_self {c : Cx} {v : Value} (h : plain1 v = true) : r1 c v v := by
  cases v with
  | iface t v =>
    simp only [plain1, Bool.or_eq_true] at h
    exact ⟨v, rfl, h.imp plain0_self (fun h => ⟨h, rfl⟩)⟩
  | func fn f k =>
    simp only [plain1, Bool.and_eq_true, List.all_eq_true] at h
    exact ⟨f, k, rfl, All2.of_same (fun a ha => plain0_self (h.1 a ha)), All2.of_same (fun a ha => plain0_self (h.2 a ha))⟩
  | _ => simp only [r1]; simp only [plain1] at h; exact plain0_self h
theorem plain2_self {c : Cx} {v : Value} (h : plain2 v = true) : r2 c v v := by
  cases v with
  | agg cs => exact ⟨cs, rfl, All2.of_same (fun a ha => plain1_self (by simp only [plain2, List.all_eq_true] at h; exact h a ha))⟩
  | _ => simp only [r2]; simp only [plain2] at h; exact plain1_self h
theorem plain3_self {c : Cx} {v : Value} (h : plain3 v = true) : r3 c v v := by
  cases v with
  | tuple cs => exact ⟨cs, rfl, All2.of_same (fun a ha => plain2_self (by simp only [plain3, List.all_eq_true] at h; exact h a ha))⟩
  | _ => simp only [r3]; simp only [plain3] at h; exact plain2_self h
theorem plain0_eq {c : Cx} {v v' : Value} (h : plain0 v = true) (hr : r0 c v v') : v' = v := by
  cases v <;> simp [plain0] at h <;> (try exact hr)
  · rename_i a; cases a <;> simp [plain0] at h; exact hr
  · rename_i a n k; cases a <;> simp [plain0] at h; exact hr
  · rename_i a; cases a <;> simp [plain0] at h; exact hr
theorem all2_plain0_eq {c : Cx} {l m : List Value} (h : ∀ v ∈ l, plain0 v = true) (hr : All2 (r0 c) l m) : m = l := by
  induction hr with
  | nil => rfl
  | cons hr _ ih => rw [plain0_eq (h _ (by simp)) hr, ih (fun v hv => h v (by simp [hv]))]
theorem plain1_eq {c : Cx} {v v' : Value} (h : plain1 v = true) (hr : r1 c v v') : v' = v := by
  cases v with
  | iface t v =>
    obtain ⟨u, hu, hr⟩ := hr
    simp only [plain1, Bool.or_eq_true] at h
    rcases hr with hr | ⟨_, hr⟩
    · rcases h with h | h
      · rw [hu, plain0_eq h hr]
      · cases v <;> first | cases h | exact hr.elim
    · rw [hu, hr]
  | func fn f k =>
    obtain ⟨f', k', hu, h1, h2⟩ := hr
    simp only [plain1, Bool.and_eq_true, List.all_eq_true] at h
    have e1 := all2_plain0_eq h.1 h1
    have e2 := all2_plain0_eq h.2 h2
    rw [hu, Array.toList_inj.1 e1, Array.toList_inj.1 e2]
  | _ => simp only [r1] at hr; simp only [plain1] at h; exact plain0_eq h hr
theorem all2_plain1_eq {c : Cx} {l m : List Value} (h : ∀ v ∈ l, plain1 v = true) (hr : All2 (r1 c) l m) : m = l := by
  induction hr with
  | nil => rfl
  | cons hr _ ih => rw [plain1_eq (h _ (by simp)) hr, ih (fun v hv => h v (by simp [hv]))]

theorem r0_oneCell {c : Cx} {v v' : Value} (h : r0 c v v') : v'.oneCell' = true := by
  cases v <;> simp only [r0] at h <;> (try (subst h; rfl)) <;> (try exact h.elim)
  · rename_i a; cases a with
    | none => simp only [r0] at h; subst h; rfl
    | some a => simp only [r0] at h; rw [h.2]; rfl
  · rename_i a n k; cases a with
    | none => simp only [r0] at h; subst h; rfl
    | some a =>
      simp only [r0] at h
      obtain ⟨_, _, _, h, _⟩ := h; subst h; rfl
  · rename_i a; cases a with
    | none => simp only [r0] at h; subst h; rfl
    | some a => simp only [r0] at h; rw [h.2]; rfl
theorem r1_oneCell {c : Cx} {v v' : Value} (h : r1 c v v') : v'.oneCell' = true := by
  cases v with
  | iface t v => obtain ⟨u, hu, _⟩ := h; subst hu; rfl
  | func fn f k => obtain ⟨_, _, hu, _⟩ := h; subst hu; rfl
  | _ => simp only [r1] at h; exact r0_oneCell h
/-- One cell on the abstract side. -/
def one (v : Value) : Bool := match v with | .agg _ | .tuple _ => false | _ => true
theorem r0_one {c : Cx} {v v' : Value} (h : r0 c v v') : one v = true := by
  cases v <;> first | rfl | exact h.elim
theorem r1_one {c : Cx} {v v' : Value} (h : r1 c v v') : one v = true := by
  cases v <;> first | rfl | exact h.elim
theorem r2_of_r3 {c : Cx} {v v' : Value} (hv : ∀ vs, v ≠ .tuple vs) (h : r3 c v v') : r2 c v v' := by
  cases v <;> first | exact h | exact absurd rfl (hv _)
theorem r1_of_r3 {c : Cx} {v v' : Value} (hv : one v = true) (h : r3 c v v') : r1 c v v' := by
  cases v <;> first | exact h | cases hv
theorem r3_of_r2 {c : Cx} {v v' : Value} (h : r2 c v v') : r3 c v v' := by
  cases v <;> first | exact h | exact h.elim
theorem r3_of_r1 {c : Cx} {v v' : Value} (h : r1 c v v') : r3 c v v' := by
  cases v <;> first | exact h | exact h.elim
theorem r2_of_r1 {c : Cx} {v v' : Value} (h : r1 c v v') : r2 c v v' := by
  cases v <;> first | exact h | exact h.elim
theorem r1_of_r0 {c : Cx} {v v' : Value} (h : r0 c v v') : r1 c v v' := by
  cases v <;> first | exact h | exact h.elim
theorem plain1_of_0 {v : Value} (h : plain0 v = true) : plain1 v = true := by
  cases v <;> first | exact h | cases h
theorem r2_of_r0i {c : Cx} {v v' : Value} (h : r0i c v v') : r2 c v v' := by
  rcases h with h | ⟨h, e⟩
  · exact r2_of_r1 (r1_of_r0 h)
  · rw [e]
    refine plain2_self ?_
    cases v <;> first | (cases h; done) | skip
    simp only [plainAgg, List.all_eq_true] at h
    simp only [plain2, List.all_eq_true]
    exact fun x hx => plain1_of_0 (h x hx)
theorem r3_of_r0i {c : Cx} {v v' : Value} (h : r0i c v v') : r3 c v v' := r3_of_r2 (r2_of_r0i h)
/-- The cells of a value. -/
theorem r2_cells {c : Cx} {v v' : Value} (h : r2 c v v') : All2 (r1 c) v.cells.toList v'.cells.toList := by
  cases v with
  | agg cs => obtain ⟨cs', hu, hr⟩ := h; subst hu; exact hr
  | tuple cs => exact h.elim
  | bool _ => have h : v' = _ := h; subst h; exact .cons rfl .nil
  | int _ _ => have h : v' = _ := h; subst h; exact .cons rfl .nil
  | string _ => have h : v' = _ := h; subst h; exact .cons rfl .nil
  | float _ _ => exact h.elim
  | complex _ _ _ => exact h.elim
  | chan _ => exact h.elim
  | nilIface => have h : v' = _ := h; subst h; exact .cons rfl .nil
  | nilFunc => have h : v' = _ := h; subst h; exact .cons rfl .nil
  | pointer a =>
    have h1 : r1 c (.pointer a) v' := h
    have h2 := r1_oneCell h1
    have : v'.cells = #[v'] := by cases v' <;> first | rfl | cases h2
    rw [this]; exact .cons h1 .nil
  | slice a n k =>
    have h1 : r1 c (.slice a n k) v' := h
    have h2 := r1_oneCell h1
    have : v'.cells = #[v'] := by cases v' <;> first | rfl | cases h2
    rw [this]; exact .cons h1 .nil
  | map a =>
    have h1 : r1 c (.map a) v' := h
    have h2 := r1_oneCell h1
    have : v'.cells = #[v'] := by cases v' <;> first | rfl | cases h2
    rw [this]; exact .cons h1 .nil
  | iface a n =>
    have h1 : r1 c (.iface a n) v' := h
    have h2 := r1_oneCell h1
    have : v'.cells = #[v'] := by cases v' <;> first | rfl | cases h2
    rw [this]; exact .cons h1 .nil
  | func a n k =>
    have h1 : r1 c (.func a n k) v' := h
    have h2 := r1_oneCell h1
    have : v'.cells = #[v'] := by cases v' <;> first | rfl | cases h2
    rw [this]; exact .cons h1 .nil
theorem Cx.addr_add {c : Cx} {a : Addr} (k : Nat) (h : c.ok a) : c.ok (a.add k) ∧ (c.addr a).add k = c.addr (a.add k) := by
  unfold Addr.add Cx.addr Cx.ok at *
  by_cases hk : k = 0
  · subst hk; simp only [if_true]; exact ⟨h, trivial⟩
  · simp only [hk, if_false]
    by_cases hb : a.block < c.B
    · simp [hb]
    · simp only [hb, if_false]
      exact ⟨.inr ⟨(h.resolve_left hb).1, by first | rfl | trivial⟩, by first | rfl | trivial⟩
end Go.Ot
