/-
  Chapter 29: lists of tasks: how wide, how deep, how written (plain).
-/
namespace Go.Fl
/-- A task. -/
structure Tk where
  age : Int
  reads : List Int
  writes : List Int
  from' : List Int
  deep : Int
/-- Does a task stand at a depth that counts? -/
def Tk.ok (t : Tk) : Bool := decide (1 ≤ t.deep) && decide (t.deep ≤ 200)
def topV : List Tk → Nat
  | [] => 0
  | t :: l => if t.ok then max t.deep.toNat (topV l) else topV l
def cntV (d : Nat) (l : List Tk) : Nat := (l.filter fun t => t.ok && decide (t.deep = (d : Int) + 1)).length
/-- How many stand at each depth up to the n-th. -/
def wideN (n : Nat) (l : List Tk) : List Int := (List.range n).map fun d => (cntV d l : Int)
def wideV (l : List Tk) : List Int := wideN (topV l) l
theorem topV_le : ∀ l : List Tk, topV l ≤ 200
  | [] => by simp [topV]
  | t :: l => by
    have := topV_le l
    unfold topV
    split
    · rename_i h
      simp [Tk.ok] at h
      omega
    · exact this
theorem topV_snoc (t : Tk) : ∀ l : List Tk, topV (l ++ [t]) = if t.ok then max (topV l) t.deep.toNat else topV l
  | [] => by simp [topV]
  | a :: l => by
    simp only [List.cons_append, topV, topV_snoc t l]
    split <;> split <;> omega
theorem wideN_len (n : Nat) (l : List Tk) : (wideN n l).length = n := by simp [wideN]
theorem cntV_snoc (d : Nat) (t : Tk) (l : List Tk) : cntV d (l ++ [t]) = cntV d l + if t.ok && decide (t.deep = (d : Int) + 1) then 1 else 0 := by
  unfold cntV
  rw [List.filter_append, List.length_append]
  congr 1
  by_cases h : (t.ok && decide (t.deep = (d : Int) + 1)) = true
  · simp [List.filter, h]
  · simp [List.filter, h]
theorem cntV_zero {d : Nat} : ∀ {l : List Tk}, topV l ≤ d → cntV d l = 0
  | [], _ => rfl
  | t :: l, h => by
    have h2 : topV l ≤ d := by
      unfold topV at h; split at h <;> omega
    have ih := cntV_zero h2
    unfold cntV at ih ⊢
    have hn : ¬ ((t.ok && decide (t.deep = (d : Int) + 1)) = true) := by
      intro hc
      simp only [Bool.and_eq_true, decide_eq_true_eq] at hc
      unfold topV at h
      rw [if_pos hc.1] at h
      omega
    rw [List.filter_cons, if_neg (by simpa using hn)]
    exact ih
theorem cntV_le (d : Nat) (l : List Tk) : cntV d l ≤ l.length := List.length_filter_le _ _
/-- A task that does not count. -/
theorem wideN_skip {n : Nat} {t : Tk} {l : List Tk} (h : t.ok = false) : wideN n (l ++ [t]) = wideN n l := by
  unfold wideN
  refine List.map_congr_left fun d _ => ?_
  rw [cntV_snoc]
  simp [h]
/-- One depth more, at which nobody stands. -/
theorem wideN_pad {n : Nat} {l : List Tk} (h : topV l ≤ n) : wideN n l ++ [0] = wideN (n + 1) l := by
  unfold wideN
  rw [List.range_succ, List.map_append]
  simp [cntV_zero h]
theorem wideN_get {n : Nat} {l : List Tk} {d : Nat} (h : d < n) : (wideN n l)[d]? = some ((cntV d l : Nat) : Int) := by
  unfold wideN
  rw [List.getElem?_map, List.getElem?_range h]
  rfl
theorem wideN_set {n : Nat} {t : Tk} {l : List Tk} (hok : t.ok = true) {d : Nat} (hd : t.deep = (d : Int) + 1) (hn : d < n) : (wideN n l).set d ((cntV d l : Int) + 1) = wideN n (l ++ [t]) := by
  apply List.ext_getElem?
  intro i
  rw [List.getElem?_set]
  by_cases hi : i < n
  · rw [wideN_get hi]
    by_cases h : d = i
    · subst h
      rw [if_pos rfl, if_pos (by rw [wideN_len]; exact hn), wideN_get hn, cntV_snoc]
      simp [hok, hd]
    · rw [if_neg h, wideN_get hi, cntV_snoc]
      have : decide (t.deep = (i : Int) + 1) = false := by simp; omega
      simp [this]
  · have e : ∀ m : List Tk, (wideN n m)[i]? = none := fun m => List.getElem?_eq_none (by rw [wideN_len]; omega)
    rw [e, e]
    split
    · split
      · rename_i h1 h2; rw [wideN_len] at h2; omega
      · rfl
    · rfl
/-! ### the deepest one -/
/-- The first of the deepest, beginning with a first one at hand. -/
def bestV (L : List Tk) : Nat → Nat → Option Nat → Option Nat
  | 0, _, b => b
  | k + 1, i, b => bestV L k (i + 1) (match b with
    | none => some i
    | some j => if (L[j]?.map Tk.deep).getD 0 < (L[i]?.map Tk.deep).getD 0 then some i else some j)
def deepV (L : List Tk) (i : Nat) : Int := (L[i]?.map Tk.deep).getD 0
theorem bestV_lt (L : List Tk) : ∀ (k i : Nat) (b : Option Nat), i + k = L.length → (∀ j, b = some j → j < L.length) → ∀ j, bestV L k i b = some j → j < L.length
  | 0, i, b, h, hb, j, hj => hb j hj
  | k + 1, i, b, h, hb, j, hj => by
    refine bestV_lt L k (i + 1) _ (by omega) ?_ j hj
    intro q hq
    cases b with
    | none => simp at hq; omega
    | some p =>
      have := hb p rfl
      simp only at hq
      split at hq <;> (simp at hq; omega)
/-! ### the one ahead -/
/-- The first of an age and a depth, from the i-th on. -/
def findV (L : List Tk) (w d : Int) : Nat → Nat → Option Nat
  | 0, _ => none
  | k + 1, i => match L[i]? with
    | some t => if t.age = w ∧ t.deep = d then some i else findV L w d k (i + 1)
    | none => none
def befV (L : List Tk) (d : Int) : List Int → Option Nat
  | [] => none
  | w :: ws => match findV L w d L.length 0 with
    | some i => some i
    | none => befV L d ws
theorem findV_lt (L : List Tk) (w d : Int) : ∀ (k i j : Nat), findV L w d k i = some j → j < L.length
  | 0, i, j, h => by cases h
  | k + 1, i, j, h => by
    unfold findV at h
    split at h
    · rename_i t ht
      split at h
      · simp at h
        have := (List.getElem?_eq_some_iff.1 ht).1
        omega
      · exact findV_lt L w d k (i + 1) j h
    · cases h
theorem befV_lt (L : List Tk) (d : Int) : ∀ (ws : List Int) (j : Nat), befV L d ws = some j → j < L.length
  | [], j, h => by cases h
  | w :: ws, j, h => by
    unfold befV at h
    split at h
    · rename_i i hi
      simp at h
      subst h
      exact findV_lt L w d _ _ _ hi
    · exact befV_lt L d ws j h
/-- From one to the next ahead, so far as so many steps go: the ages, the last one first. -/
def chainGo (L : List Tk) (next : Int → Int) : Nat → Option Nat → List Int → List Int
  | _, none, out => out
  | 0, some _, _ => []
  | k + 1, some i, out => match L[i]? with
    | some t => if L.length < (t.age :: out).length then [] else chainGo L next k (befV L (next t.deep) t.from') (t.age :: out)
    | none => []
/-- How a task's numbers are written. -/
def ints (dec : Int → List Nat) (l : List Int) : List Nat := l.flatMap fun n => 32 :: dec n
def lineT (dec : Int → List Nat) (t : Tk) : List Nat :=
  [116, 97, 115, 107] ++ ints dec [t.age, t.deep] ++ ([32, 114, 101, 97, 100, 115] ++ ints dec t.reads) ++ ([32, 119, 114, 105, 116, 101, 115] ++ ints dec t.writes) ++ ([32, 102, 114, 111, 109] ++ ints dec t.from') ++ [10]
end Go.Fl
