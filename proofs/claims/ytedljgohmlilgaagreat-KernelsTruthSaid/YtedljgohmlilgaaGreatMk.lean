/-
  A slice of slices that a call builds by append: words on memory, and on lists.
-/
import Derived.Test.YtedljgohmlilgaaGreatEL
namespace Go.Proofs.YtedljgohmlilgaaGreat
open Go.RowKit
set_option linter.unusedVariables false

def intCells (xs : List Nat) : List Value := xs.map fun (n : Nat) => Value.int .i64 (n : Int)
theorem intCells_length (xs : List Nat) : (intCells xs).length = xs.length := by simp [intCells]
theorem intCells_append (xs ys : List Nat) : intCells (xs ++ ys) = intCells xs ++ intCells ys := by simp [intCells]
theorem intCells_at {xs : List Nat} {i : Nat} (h : i < xs.length) : (intCells xs)[i]? = some (.int .i64 (nat xs i)) := by simp [intCells, h, nat]
theorem intCells_one (xs : List Nat) : ∀ u ∈ intCells xs, u.oneCell' = true := by
  intro u hu
  simp [intCells] at hu
  obtain ⟨a, _, rfl⟩ := hu
  rfl
def val (vals : List Value) (i : Nat) : Value := vals.getD i (.slice none 0 0)
theorem val_eq {vals : List Value} {i : Nat} (h : i < vals.length) : val vals i = vals[i] := by simp [val, h]
theorem val_set (vals : List Value) (i j : Nat) (v : Value) (hi : i < vals.length) : val (vals.set i v) j = if i = j then v else val vals j := by
  unfold val
  rw [List.getD_eq_getElem?_getD, List.getD_eq_getElem?_getD, List.getElem?_set]
  by_cases e : i = j
  · subst e; simp [hi]
  · simp [e]
theorem row_set (rows : List (List Nat)) (i j : Nat) (r : List Nat) (hi : i < rows.length) : row (rows.set i r) j = if i = j then r else row rows j := by
  unfold row
  rw [List.getD_eq_getElem?_getD, List.getD_eq_getElem?_getD, List.getElem?_set]
  by_cases e : i = j
  · subst e; simp [hi]
  · simp [e]

structure RowsAt (w : World) (E T bo B : Nat) (vals : List Value) (rows : List (List Nat)) : Prop where
  obj : w.heap[bo]? = some (.cells vals.toArray T (0, 0))
  len : vals.length = rows.length
  own : ∀ i, i < rows.length → w.ownsRow B E 1 (val vals i) (row rows i).length (intCells (row rows i))
  apart : ∀ i j g, i < rows.length → j < rows.length → i ≠ j → (val vals i).ownBlock = some g → (val vals j).ownBlock ≠ some g

theorem RowsAt.ext {w w' : World} {E T bo B : Nat} {vals : List Value} {rows : List (List Nat)} (h : RowsAt w E T bo B vals rows) (k : Kept [] w w') : RowsAt w' E T bo B vals rows :=
  ⟨k.obj h.obj (by simp), h.len, fun i hi => ownsRow_kept (h.own i hi) k (by simp), h.apart⟩
theorem RowsAt.cell {w : World} {E T bo B : Nat} {vals : List Value} {rows : List (List Nat)} (h : RowsAt w E T bo B vals rows) {i : Nat} (hi : i < rows.length) : w.cell? ⟨bo, i, none⟩ = some (val vals i) := by
  have : i < vals.length := by rw [h.len]; exact hi
  rw [cell_of_obj h.obj, val_eq this]; simp [this]
theorem RowsAt.free {w : World} {E T bo B : Nat} {vals : List Value} {rows : List (List Nat)} (h : RowsAt w E T bo B vals rows) (i : Nat) : w.frozen? ⟨bo, i, none⟩ = false := frozen_of_obj h.obj i
/-- A block of another element type is none of a row's own. -/
theorem own_ne {w : World} {E T B n size : Nat} {v : Value} {xs : List Value} (h : w.ownsRow B E size v n xs) {k : Nat} {c : Array Value} {fr : Nat × Nat} (ho : w.heap[k]? = some (.cells c T fr)) (hne : T ≠ E) : v.ownBlock ≠ some k := by
  intro e
  rcases h.2 with ⟨rfl, _⟩ | ⟨g, cap, cur, rfl, _, hg, _⟩
  · simp [Value.ownBlock] at e
  · simp [Value.ownBlock] at e
    subst e
    rw [hg] at ho
    simp at ho
    exact hne ho.2.1.symm
theorem grown_keeps {w w' : World} {row : Option Nat} (hg : w.grownBy w' row) {k : Nat} {o : Obj} (ho : w.heap[k]? = some o) (hne : row ≠ some k) : w'.heap[k]? = some o := by
  rw [hg.block k (obj_lt ho) (fun e => hne e.symm)]; exact ho
theorem RowsAt.new {w : World} {E T B : Nat} (n : Nat) {bo : Nat} (h : w.heap[bo]? = some (.cells (List.replicate n (Value.slice none 0 0)).toArray T (0, 0))) : RowsAt w E T bo B (List.replicate n (Value.slice none 0 0)) (List.replicate n []) := by
  have hv : ∀ i, val (List.replicate n (Value.slice none 0 0)) i = .slice none 0 0 := fun i => by
    unfold val; rw [List.getD_eq_getElem?_getD, List.getElem?_replicate]; split <;> rfl
  have hr : ∀ i, row (List.replicate n []) i = [] := fun i => by
    unfold row; rw [List.getD_eq_getElem?_getD, List.getElem?_replicate]; split <;> rfl
  refine ⟨h, by simp, fun i _ => ?_, fun i j g _ _ _ e => ?_⟩
  · rw [hv, hr]; exact World.ownsRow_nil _ _ _ _
  · rw [hv] at e; simp [Value.ownBlock] at e
/-- One more number behind a row. -/
theorem RowsAt.push {w w1 : World} {E T bo B i v : Nat} {vals : List Value} {rows : List (List Nat)} {nv : Value} {gg : Nat} (h : RowsAt w E T bo B vals rows) (hT : T ≠ E) (hi : i < rows.length)
    (hg : w.grownBy w1 (val vals i).ownBlock) (hnv : nv.ownBlock = some gg) (hown : w1.ownsRow B E 1 nv ((row rows i).length + 1) (intCells (row rows i) ++ [.int .i64 v])) (hat : (val vals i).ownBlock = some gg ∨ w.heap.size ≤ gg) :
    RowsAt (w1.setCell ⟨bo, i, none⟩ nv) E T bo B (vals.set i nv) (rows.set i (row rows i ++ [v])) := by
  have hvi : i < vals.length := by rw [h.len]; exact hi
  have hbo : w1.heap[bo]? = some (.cells vals.toArray T (0, 0)) := grown_keeps hg h.obj (own_ne (h.own i hi) h.obj hT)
  have hset : ∀ k, k ≠ bo → (w1.setCell ⟨bo, i, none⟩ nv).heap[k]? = w1.heap[k]? := fun k hk => Below.heap_setCell _ _ _ _ hk
  have keep : ∀ {v : Value} {n : Nat} {xs : List Value}, w1.ownsRow B E 1 v n xs → (w1.setCell ⟨bo, i, none⟩ nv).ownsRow B E 1 v n xs := fun {v n xs} ho =>
    ownsRow_kept (S := [bo]) ho ((Kept.refl _ _).setCell (by simp) _) (fun j hj => by simp; rintro rfl; exact own_ne ho hbo hT hj)
  have gl : gg < w1.heap.size := (hown.lt gg hnv).2
  refine ⟨?_, by simp [h.len], fun j hj => ?_, fun j k g hj hk hjk e => ?_⟩
  · rw [obj_setCell hbo]; simp
  · rw [List.length_set] at hj
    rw [val_set _ _ _ _ hvi, row_set _ _ _ _ hi]
    by_cases e : i = j
    · subst e
      simp only [if_true]
      rw [intCells_append, List.length_append]
      exact keep hown
    · simp only [if_neg e]
      have ho := h.own j hj
      refine keep (ho.kept hg ?_)
      rcases hb : (val vals j).ownBlock with _ | g
      · exact .inl rfl
      · right; intro e2; exact h.apart j i g hj hi (fun e3 => e e3.symm) hb e2.symm
  · rw [List.length_set] at hj hk
    rw [val_set _ _ _ _ hvi] at e ⊢
    by_cases ej : i = j
    · subst ej
      simp only [if_true] at e
      rw [hnv] at e
      have e := Option.some.inj e
      subst e
      rw [if_neg hjk]
      intro e2
      rcases hat with ha | ha
      · exact h.apart _ _ _ hi hk hjk ha e2
      · have := ((h.own k hk).lt _ e2).2; omega
    · rw [if_neg ej] at e
      by_cases ek : i = k
      · subst ek
        simp only [if_true]
        rw [hnv]
        intro e2
        have e2 := Option.some.inj e2
        subst e2
        rcases hat with ha | ha
        · exact h.apart _ _ _ hi hj (fun e3 => ej e3) ha e
        · have := ((h.own j hj).lt _ e).2; omega
      · rw [if_neg ek]; exact h.apart j k g hj hk hjk e
/-- Read alone. -/
theorem RowsAt.out {w : World} {E T bo B : Nat} {vals : List Value} {rows : List (List Nat)} (h : RowsAt w E T bo B vals rows) : IsOut w [] (some ⟨bo, 0, none⟩) rows := by
  refine ⟨fun i hi => ⟨bo, 0, rfl, by simp, ?_⟩⟩
  obtain ⟨a, c, hv, hc, hnone, hsome⟩ := ownsRow_slice (h.own i hi)
  refine ⟨a, c, by rw [Nat.zero_add, h.cell hi, hv], ⟨fun j hj => ?_⟩⟩
  cases a with
  | none => have := (hnone rfl).1; omega
  | some ad =>
    obtain ⟨g, rfl, _, _, hcell⟩ := hsome ad rfl
    exact ⟨g, 0, rfl, by simp, by rw [Nat.zero_add]; exact hcell _ _ (intCells_at hj)⟩

/-! ### The rows of a shard -/
def lead (es : List (Nat × Nat)) (u : Nat) : List Nat := (es.filter fun e => decide (e.1 = u)).map (·.2)
def rowsOf (es : List (Nat × Nat)) (fr n : Nat) : List (List Nat) := (List.range n).map fun i => lead es (fr + i)
theorem rowsOf_length (es : List (Nat × Nat)) (fr n : Nat) : (rowsOf es fr n).length = n := by simp [rowsOf]
theorem row_rowsOf (es : List (Nat × Nat)) (fr n i : Nat) (h : i < n) : row (rowsOf es fr n) i = lead es (fr + i) := by simp [row, rowsOf, h]
theorem rowsOf_nil (fr n : Nat) : rowsOf [] fr n = List.replicate n [] := by
  apply List.ext_getElem
  · simp [rowsOf]
  · intro i h1 h2; simp [rowsOf, lead]
theorem lead_snoc (es : List (Nat × Nat)) (e : Nat × Nat) (u : Nat) : lead (es ++ [e]) u = lead es u ++ (if e.1 = u then [e.2] else []) := by
  unfold lead
  rw [List.filter_append, List.map_append]
  congr 1
  by_cases h : e.1 = u <;> simp [h]
theorem rowsOf_out (es : List (Nat × Nat)) (e : Nat × Nat) (fr n : Nat) (h : e.1 < fr ∨ fr + n ≤ e.1) : rowsOf (es ++ [e]) fr n = rowsOf es fr n := by
  unfold rowsOf
  apply List.map_congr_left
  intro i hi
  have := List.mem_range.1 hi
  rw [lead_snoc, if_neg (by omega), List.append_nil]
theorem rowsOf_in (es : List (Nat × Nat)) (fr n i v : Nat) (h : i < n) : rowsOf (es ++ [(fr + i, v)]) fr n = (rowsOf es fr n).set i (row (rowsOf es fr n) i ++ [v]) := by
  rw [row_rowsOf _ _ _ _ h]
  apply List.ext_getElem
  · simp [rowsOf]
  · intro j h1 h2
    simp only [rowsOf, List.length_map, List.length_range] at h1
    rw [List.getElem_set]
    simp only [rowsOf, List.getElem_map, List.getElem_range, lead_snoc]
    by_cases e : i = j
    · subst e; simp
    · rw [if_neg e, if_neg (by simp; omega), List.append_nil]
theorem lead_length (es : List (Nat × Nat)) (u : Nat) : (lead es u).length ≤ es.length := by
  unfold lead; rw [List.length_map]; exact List.length_filter_le _ _
end Go.Proofs.YtedljgohmlilgaaGreat
