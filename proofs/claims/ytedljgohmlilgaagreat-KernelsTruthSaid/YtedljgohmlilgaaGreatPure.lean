/-
  What the kernels do with rows, in plain words: no program in sight.
-/
import Derived.Test.YtedljgohmlilgaaGreatW
namespace Go.Proofs.YtedljgohmlilgaaGreat
set_option linter.unusedVariables false

/-! ### Places that are set one behind the other -/
def setTo (g : Nat → Int) : Nat → List Int → List Int
  | 0, xs => xs
  | k + 1, xs => (setTo g k xs).set k (g k)
theorem setTo_length (g : Nat → Int) (k : Nat) (xs : List Int) : (setTo g k xs).length = xs.length := by
  induction k with
  | zero => rfl
  | succ k ih => simp [setTo, ih]
theorem nth_setTo (g : Nat → Int) (k : Nat) (xs : List Int) (i : Nat) : nth (setTo g k xs) i = if i < k ∧ i < xs.length then g i else nth xs i := by
  induction k with
  | zero => simp [setTo]
  | succ k ih =>
    rw [setTo, nth_set, setTo_length, ih]
    by_cases e : k = i
    · subst e
      by_cases h : k < xs.length <;> simp [h]
    · by_cases h : i < k
      · simp [e, h, Nat.lt_succ_of_lt h]
      · have : ¬ i < k + 1 := by omega
        simp [e, h, this]
theorem nth_setTo_past (g : Nat → Int) (k : Nat) (xs : List Int) : nth (setTo g k xs) k = nth xs k := by rw [nth_setTo, if_neg (by omega)]
theorem list_ext_nth {xs ys : List Int} (hl : xs.length = ys.length) (h : ∀ i, i < xs.length → nth xs i = nth ys i) : xs = ys := by
  apply List.ext_getElem hl
  intro i h1 h2
  have := h i h1
  rw [nth_eq h1, nth_eq h2] at this
  exact this
def tab (g : Nat → Int) (n : Nat) : List Int := (List.range n).map g
theorem tab_length (g : Nat → Int) (n : Nat) : (tab g n).length = n := by simp [tab]
theorem nth_tab (g : Nat → Int) (n i : Nat) (h : i < n) : nth (tab g n) i = g i := by simp [nth, tab, h]
theorem setTo_all (g : Nat → Int) (xs : List Int) : setTo g xs.length xs = tab g xs.length := by
  apply list_ext_nth
  · rw [setTo_length, tab_length]
  · intro i h
    rw [setTo_length] at h
    rw [nth_setTo, nth_tab _ _ _ h, if_pos ⟨h, h⟩]
theorem tab_congr {g h : Nat → Int} {n : Nat} (e : ∀ i, i < n → g i = h i) : tab g n = tab h n := by
  apply list_ext_nth
  · rw [tab_length, tab_length]
  · intro i hi
    rw [tab_length] at hi
    rw [nth_tab _ _ _ hi, nth_tab _ _ _ hi, e i hi]
theorem tab_nth (xs : List Int) : tab (nth xs) xs.length = xs := by
  apply list_ext_nth
  · rw [tab_length]
  · intro i hi
    rw [tab_length] at hi
    rw [nth_tab _ _ _ hi]
theorem set_nth (xs : List Int) (i : Nat) : xs.set i (nth xs i) = xs := by
  apply list_ext_nth
  · simp
  · intro j hj
    rw [nth_set]
    split
    · rename_i h; rw [h.1]
    · rfl
/-- So many places are all right. -/
def allTo (p : Nat → Bool) : Nat → Bool
  | 0 => true
  | k + 1 => allTo p k && p k
theorem allTo_iff (p : Nat → Bool) (k : Nat) : allTo p k = true ↔ ∀ i, i < k → p i = true := by
  induction k with
  | zero => simp [allTo]
  | succ k ih =>
    simp only [allTo, Bool.and_eq_true, ih]
    constructor
    · intro ⟨h, hk⟩ i hi
      rcases Nat.lt_succ_iff_lt_or_eq.1 hi with hi | rfl
      · exact h i hi
      · exact hk
    · intro h
      exact ⟨fun i hi => h i (by omega), h k (by omega)⟩

/-- A place set to a number, if that is less. -/
def lower (xs : List Int) (i : Nat) (v : Int) : List Int := if v < nth xs i then xs.set i v else xs
theorem lower_lt {xs : List Int} {i : Nat} {v : Int} (h : v < nth xs i) : lower xs i v = xs.set i v := if_pos h
theorem lower_ge {xs : List Int} {i : Nat} {v : Int} (h : ¬ v < nth xs i) : lower xs i v = xs := if_neg h
theorem lower_length (xs : List Int) (i : Nat) (v : Int) : (lower xs i v).length = xs.length := by unfold lower; split <;> simp
theorem nth_lower (xs : List Int) (i j : Nat) (v : Int) : nth (lower xs i v) j = if i = j ∧ j < xs.length ∧ v < nth xs j then v else nth xs j := by
  unfold lower
  split
  · rename_i h
    rw [nth_set]
    by_cases e : i = j
    · subst e; simp [h]
    · simp [e]
  · rename_i h
    by_cases e : i = j
    · subst e; simp [h]
    · simp [e]

/-! ### Package bfs -/
/-- A distance that there is not. -/
def far : Int := 18446744073709551615
def farBut (arg i : Nat) : Int := if arg = i then 0 else far
def bfsEdge (round : Nat) (xs ys : List Int) (e : Nat × Nat × Nat) : List Int := if nth xs e.1 = round then lower ys e.2.1 (round + 1) else ys
def bfsShard (round : Nat) (xs ys : List Int) (es : List (Nat × Nat × Nat)) : List Int := es.foldl (bfsEdge round xs) ys
theorem bfsEdge_length (round : Nat) (xs ys : List Int) (e : Nat × Nat × Nat) : (bfsEdge round xs ys e).length = ys.length := by
  unfold bfsEdge; split
  · exact lower_length _ _ _
  · rfl
theorem bfsShard_length (round : Nat) (xs ys : List Int) (es : List (Nat × Nat × Nat)) : (bfsShard round xs ys es).length = ys.length := by
  unfold bfsShard
  induction es generalizing ys with
  | nil => rfl
  | cons e es ih => rw [List.foldl_cons, ih, bfsEdge_length]
theorem foldl_take_succ {α β : Type} (f : β → α → β) (b : β) (l : List α) (i : Nat) (x : α) (h : l[i]? = some x) : (l.take (i + 1)).foldl f b = f ((l.take i).foldl f b) x := by
  obtain ⟨hi, e⟩ := List.getElem?_eq_some_iff.1 h
  rw [List.take_succ_eq_append_getElem hi, List.foldl_append, e]; rfl
/-- What a round's end makes of a place, and whether it is as it was. -/
def bfsCur (xs ys : List Int) (i : Nat) : Int := if nth ys i = far then nth xs i else if nth ys i < nth xs i then nth ys i else nth xs i
def bfsSame (xs ys : List Int) (i : Nat) : Bool := decide (nth ys i = far) || !decide (nth ys i < nth xs i)
def bfsDone (xs ys : List Int) : Bool := allTo (bfsSame xs ys) xs.length

/-! ### Package rank -/
def one : Int := 4294967296
def word (x : Int) : Int := x % 18446744073709551616
/-- Numbers of 64 bits. -/
def Words (xs : List Int) : Prop := ∀ i, 0 ≤ nth xs i ∧ nth xs i < 18446744073709551616
theorem word_in (x : Int) : 0 ≤ word x ∧ word x < 18446744073709551616 := by unfold word; omega
theorem Words.set {xs : List Int} (h : Words xs) (i : Nat) {v : Int} (hv : 0 ≤ v ∧ v < 18446744073709551616) : Words (xs.set i v) := by
  intro j; rw [nth_set]; split
  · exact hv
  · exact h j
theorem Words.lower {xs : List Int} (h : Words xs) (i : Nat) {v : Int} (hv : 0 ≤ v ∧ v < 18446744073709551616) : Words (lower xs i v) := by
  unfold YtedljgohmlilgaaGreat.lower; split
  · exact h.set i hv
  · exact h
theorem Words.tab {g : Nat → Int} (n : Nat) (h : ∀ i, 0 ≤ g i ∧ g i < 18446744073709551616) : Words (tab g n) := by
  intro i
  by_cases hi : i < n
  · rw [nth_tab _ _ _ hi]; exact h i
  · simp [nth, YtedljgohmlilgaaGreat.tab, hi]
def rankEdge (xs ys : List Int) (e : Nat × Nat × Nat) : List Int := ys.set e.2.1 (word (nth ys e.2.1 + nth xs e.1 / (e.2.2 : Int)))
def rankShard (xs ys : List Int) (es : List (Nat × Nat × Nat)) : List Int := es.foldl (rankEdge xs) ys
theorem rankEdge_length (xs ys : List Int) (e : Nat × Nat × Nat) : (rankEdge xs ys e).length = ys.length := by simp [rankEdge]
theorem rankShard_length (xs ys : List Int) (es : List (Nat × Nat × Nat)) : (rankShard xs ys es).length = ys.length := by
  unfold rankShard
  induction es generalizing ys with
  | nil => rfl
  | cons e es ih => rw [List.foldl_cons, ih, rankEdge_length]
theorem rankEdge_words {xs ys : List Int} (h : Words ys) (e : Nat × Nat × Nat) : Words (rankEdge xs ys e) := h.set _ (word_in _)
theorem rankShard_words {xs ys : List Int} (h : Words ys) (es : List (Nat × Nat × Nat)) : Words (rankShard xs ys es) := by
  unfold rankShard
  induction es generalizing ys with
  | nil => exact h
  | cons e es ih => rw [List.foldl_cons]; exact ih (rankEdge_words h e)
/-- What a round's end makes of a sum. -/
def ranked (y : Int) : Int := word (644245094 + word (y * 850) / 1000)
def rankDone (arg round : Nat) : Bool := decide (arg ≤ round + 1)

/-! ### Package labels -/
def labelsEdge (xs ys : List Int) (e : Nat × Nat × Nat) : List Int := lower (lower ys e.2.1 (nth xs e.1)) e.1 (nth xs e.2.1)
def labelsShard (xs ys : List Int) (es : List (Nat × Nat × Nat)) : List Int := es.foldl (labelsEdge xs) ys
theorem labelsEdge_length (xs ys : List Int) (e : Nat × Nat × Nat) : (labelsEdge xs ys e).length = ys.length := by simp [labelsEdge, lower_length]
theorem labelsShard_length (xs ys : List Int) (es : List (Nat × Nat × Nat)) : (labelsShard xs ys es).length = ys.length := by
  unfold labelsShard
  induction es generalizing ys with
  | nil => rfl
  | cons e es ih => rw [List.foldl_cons, ih, labelsEdge_length]
def labelsCur (xs ys : List Int) (i : Nat) : Int := if nth ys i < nth xs i then nth ys i else nth xs i
def labelsSame (xs ys : List Int) (i : Nat) : Bool := !decide (nth ys i < nth xs i)
def labelsDone (xs ys : List Int) : Bool := allTo (labelsSame xs ys) xs.length

/-! ### Package cores -/
def inc (ys : List Int) (i : Nat) : List Int := ys.set i (word (nth ys i + 1))
def coresEdge (xs ys : List Int) (e : Nat × Nat × Nat) : List Int := if nth xs e.1 = 0 then ys else if nth xs e.2.1 = 0 then ys else inc (inc ys e.1) e.2.1
def coresShard (xs ys : List Int) (es : List (Nat × Nat × Nat)) : List Int := es.foldl (coresEdge xs) ys
theorem coresEdge_length (xs ys : List Int) (e : Nat × Nat × Nat) : (coresEdge xs ys e).length = ys.length := by
  unfold coresEdge; split
  · rfl
  · split
    · rfl
    · simp [inc]
theorem coresShard_length (xs ys : List Int) (es : List (Nat × Nat × Nat)) : (coresShard xs ys es).length = ys.length := by
  unfold coresShard
  induction es generalizing ys with
  | nil => rfl
  | cons e es ih => rw [List.foldl_cons, ih, coresEdge_length]
/-- Does a vertex go? -/
def coresGoes (arg : Nat) (xs ys : List Int) (i : Nat) : Bool := !decide (nth xs i = 0) && decide (0 < arg) && decide (nth ys i < arg)
def coresCur (arg : Nat) (xs ys : List Int) (i : Nat) : Int := if coresGoes arg xs ys i = true then 0 else nth xs i
def coresSame (arg : Nat) (xs ys : List Int) (i : Nat) : Bool := !coresGoes arg xs ys i
def coresDone (arg : Nat) (xs ys : List Int) : Bool := allTo (coresSame arg xs ys) xs.length
end Go.Proofs.YtedljgohmlilgaaGreat
