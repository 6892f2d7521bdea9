/-
  Words on worlds: which blocks of memory may have turned ('Kept'), and a row of numbers in memory. No program in sight.
-/
import Derived.WalkKit
import Derived.Deep.Draws
import Derived.Deep.OwnRows
namespace Go.Proofs.YtedljgohmlilgaaGreat
open Go.RowKit

/-- A fact kept from the walk's own rules. -/
theorem hid {p : Prop} (h : p) : Hid p := h

/-- Of the blocks that were there in w, only those of S may have turned. -/
structure Kept (S : List Nat) (w w' : World) : Prop where
  os : w'.os = w.os
  tape : w'.tape = w.tape
  output : w'.output = w.output
  size : w.heap.size ≤ w'.heap.size
  block : ∀ k, k < w.heap.size → k ∉ S → w'.heap[k]? = w.heap[k]?

theorem Kept.refl (S : List Nat) (w : World) : Kept S w w := ⟨rfl, rfl, rfl, Nat.le_refl _, fun _ _ _ => rfl⟩
theorem Kept.trans {S : List Nat} {a b c : World} (h : Kept S a b) (k : Kept S b c) : Kept S a c :=
  ⟨k.os.trans h.os, k.tape.trans h.tape, k.output.trans h.output, Nat.le_trans h.size k.size, fun i hi hs => (k.block i (Nat.lt_of_lt_of_le hi h.size) hs).trans (h.block i hi hs)⟩
/-- What may turn may be named more widely; blocks that were not there need no name. -/
theorem Kept.to {S S' : List Nat} {a b : World} (h : Kept S a b) (hs : ∀ k, k ∈ S → k ∈ S' ∨ a.heap.size ≤ k) : Kept S' a b :=
  ⟨h.os, h.tape, h.output, h.size, fun k hk hn => h.block k hk (fun hm => (hs k hm).elim hn (fun hl => by omega))⟩
theorem Kept.of_nil {S : List Nat} {a b : World} (h : Kept [] a b) : Kept S a b := h.to (fun _ hk => by simp at hk)
theorem Kept.to_nil {S : List Nat} {a b : World} (h : Kept S a b) (hs : ∀ k, k ∈ S → a.heap.size ≤ k) : Kept [] a b := h.to (fun k hk => .inr (hs k hk))
theorem Kept.drew {S : List Nat} {a w : World} (h : Kept S a w) : Kept S a w.drew := ⟨h.os, h.tape, h.output, h.size, h.block⟩
theorem Kept.drewN {S : List Nat} {a w : World} (h : Kept S a w) (n : Nat) : Kept S a (w.drewN n) := ⟨h.os, h.tape, h.output, h.size, h.block⟩
theorem Kept.alloc {S : List Nat} {a w : World} (h : Kept S a w) (o : Obj) : Kept S a (w.alloc o) :=
  ⟨h.os, h.tape, h.output, Nat.le_trans h.size (by simp), fun k hk hs => (Below.heap_alloc w o k (Nat.lt_of_lt_of_le hk h.size)).trans (h.block k hk hs)⟩
theorem Kept.setCell {S : List Nat} {a w : World} (h : Kept S a w) {p : Addr} (hp : p.block ∈ S ∨ a.heap.size ≤ p.block) (u : Value) : Kept S a (w.setCell p u) :=
  ⟨h.os, h.tape, h.output, Nat.le_trans h.size (by simp [World.setCell]), fun k hk hs => by
    rw [Below.heap_setCell]
    · exact h.block k hk hs
    · intro e; subst e; rcases hp with hp | hp
      · exact hs hp
      · omega⟩
theorem Kept.cell {S : List Nat} {w w' : World} (h : Kept S w w') {p : Addr} (hp : p.block < w.heap.size) (hs : p.block ∉ S) : w'.cell? p = w.cell? p :=
  World.cell?_of_block (w := w) (h.block p.block hp hs)
theorem Kept.frozen {S : List Nat} {w w' : World} (h : Kept S w w') {p : Addr} (hp : p.block < w.heap.size) (hs : p.block ∉ S) : w'.frozen? p = w.frozen? p :=
  World.frozen?_of_block (w := w) (h.block p.block hp hs)
/-- A cell that is there stays there. -/
theorem Kept.cell_some {S : List Nat} {w w' : World} (h : Kept S w w') {p : Addr} {v : Value} (hc : w.cell? p = some v) (hs : p.block ∉ S) : w'.cell? p = some v :=
  (h.cell (World.block_lt_of_cell? w p hc) hs).trans hc
theorem Kept.below {S : List Nat} {w w' : World} (h : Kept S w w') {B : Nat} (hB : B ≤ w.heap.size) (hs : ∀ k, k ∈ S → B ≤ k) : Below B w w' :=
  ⟨h.os, h.tape, h.output, h.size, fun k hk => h.block k (by omega) (fun hm => by have := hs k hm; omega)⟩
theorem Kept.obj {S : List Nat} {w w' : World} (h : Kept S w w') {k : Nat} {o : Obj} (ho : w.heap[k]? = some o) (hs : k ∉ S) : w'.heap[k]? = some o := by
  have hk : k < w.heap.size := by
    rcases Nat.lt_or_ge k w.heap.size with hl | hl
    · exact hl
    · rw [Array.getElem?_eq_none hl] at ho; exact absurd ho (by simp)
  rw [h.block k hk hs, ho]
theorem obj_lt {w : World} {k : Nat} {o : Obj} (ho : w.heap[k]? = some o) : k < w.heap.size := by
  rcases Nat.lt_or_ge k w.heap.size with hl | hl
  · exact hl
  · rw [Array.getElem?_eq_none hl] at ho; exact absurd ho (by simp)

theorem cell_of_obj {w : World} {k : Nat} {c : Array Value} {T : TypeId} {fr : Nat × Nat} (ho : w.heap[k]? = some (.cells c T fr)) (i : Nat) : w.cell? ⟨k, i, none⟩ = c[i]? := by
  simp [World.cell?, ho]
theorem frozen_of_obj {w : World} {k : Nat} {c : Array Value} {T : TypeId} (ho : w.heap[k]? = some (.cells c T (0, 0))) (i : Nat) : w.frozen? ⟨k, i, none⟩ = false := by
  simp [World.frozen?, ho]
theorem obj_alloc_new (w : World) (o : Obj) : (w.alloc o).heap[w.heap.size]? = some o := by
  show (w.heap.push o)[w.heap.size]? = _
  simp
theorem obj_alloc_old {w : World} {k : Nat} {o : Obj} (ho : w.heap[k]? = some o) (o' : Obj) : (w.alloc o').heap[k]? = some o := by
  rw [Below.heap_alloc _ _ _ (obj_lt ho)]; exact ho
theorem obj_setCell {w : World} {k : Nat} {c : Array Value} {T : TypeId} {fr : Nat × Nat} (ho : w.heap[k]? = some (.cells c T fr)) (i : Nat) (v : Value) :
    (w.setCell ⟨k, i, none⟩ v).heap[k]? = some (.cells (c.setIfInBounds i v) T fr) := by
  simp only [World.setCell, Array.getElem?_modify, ho]
  simp

/-- A list's number at a place (0 beyond its end); a name of its own, which no rule of a walk looks behind. -/
def nth (xs : List Int) (i : Nat) : Int := xs.getD i 0
def zeros (n : Nat) : List Int := List.replicate n 0
theorem nth_eq {xs : List Int} {i : Nat} (h : i < xs.length) : nth xs i = xs[i] := by simp [nth, h]
theorem zeros_length (n : Nat) : (zeros n).length = n := by simp [zeros]
theorem nth_zeros (n i : Nat) : nth (zeros n) i = 0 := by
  unfold nth zeros; rw [List.getD_eq_getElem?_getD, List.getElem?_replicate]; split <;> rfl
theorem nth_set (xs : List Int) (i j : Nat) (v : Int) : nth (xs.set i v) j = if i = j ∧ j < xs.length then v else nth xs j := by
  unfold nth
  rw [List.getD_eq_getElem?_getD, List.getD_eq_getElem?_getD, List.getElem?_set]
  by_cases e : i = j
  · subst e
    by_cases h : i < xs.length
    · simp [h]
    · simp [h]
  · simp [e]
theorem madeCells_ints (k : IntKind) (n : Nat) : madeCells #[.int k 0] n = ((zeros n).map (Value.int k)).toArray := by
  apply Array.ext
  · simp [madeCells, zeros]
  · intro i h1 h2
    simp [madeCells, zeros, Nat.mod_one]

theorem new_cell {w : World} {n : Nat} {v : Value} {T : TypeId} (hn : n = w.heap.size) : (w.alloc (.cells #[v] T)).cell? ⟨n, 0, none⟩ = some v := by
  rw [World.cell?_alloc_at _ _ _ _ hn]; rfl
theorem old_cell {w : World} {p : Addr} {v : Value} (o : Obj) (h : w.cell? p = some v) : (w.alloc o).cell? p = some v :=
  ((Kept.refl [] w).alloc o).cell_some h (by simp)

/-- 'vectors.Plain' at block b, its numbers in block g. -/
structure IsVec (w : World) (T E b g : Nat) (xs : List Int) : Prop where
  head : w.heap[b]? = some (.cells #[.bool true, .slice (some ⟨g, 0, none⟩) xs.length xs.length] T (0, 0))
  row : w.heap[g]? = some (.cells (xs.map (Value.int .u64)).toArray E (0, 0))

theorem IsVec.kept {S : List Nat} {w w' : World} {T E b g : Nat} {xs : List Int} (h : IsVec w T E b g xs) (k : Kept S w w') (hb : b ∉ S) (hg : g ∉ S) : IsVec w' T E b g xs :=
  ⟨k.obj h.head hb, k.obj h.row hg⟩
theorem IsVec.c0 {w : World} {T E b g : Nat} {xs : List Int} (h : IsVec w T E b g xs) : w.cell? ⟨b, 0, none⟩ = some (.bool true) := by
  rw [cell_of_obj h.head]; rfl
theorem IsVec.c1 {w : World} {T E b g : Nat} {xs : List Int} (h : IsVec w T E b g xs) : w.cell? ⟨b, 1, none⟩ = some (.slice (some ⟨g, 0, none⟩) xs.length xs.length) := by
  rw [cell_of_obj h.head]; rfl
theorem IsVec.cell {w : World} {T E b g : Nat} {xs : List Int} (h : IsVec w T E b g xs) {i : Nat} (hi : i < xs.length) : w.cell? ⟨g, i, none⟩ = some (.int .u64 (nth xs i)) := by
  rw [cell_of_obj h.row]; simp [hi, nth]
theorem IsVec.free {w : World} {T E b g : Nat} {xs : List Int} (h : IsVec w T E b g xs) (i : Nat) : w.frozen? ⟨g, i, none⟩ = false := frozen_of_obj h.row i
theorem IsVec.ne {w : World} {T E b g : Nat} {xs : List Int} (h : IsVec w T E b g xs) : b ≠ g := by
  intro e; subst e
  have h1 := h.head; have h2 := h.row
  rw [h1] at h2
  simp only [Option.some.injEq, Obj.cells.injEq] at h2
  have := congrArg (fun a : Array Value => a[0]?) h2.1
  cases xs with
  | nil => simp at this
  | cons x xs => simp at this
theorem IsVec.lt {w : World} {T E b g : Nat} {xs : List Int} (h : IsVec w T E b g xs) : b < w.heap.size ∧ g < w.heap.size := ⟨obj_lt h.head, obj_lt h.row⟩
/-- Two rows' numbers lie in two blocks, or they are one row. -/
theorem IsVec.set {w : World} {T E b g : Nat} {xs : List Int} (h : IsVec w T E b g xs) (i : Nat) (v : Int) : IsVec (w.setCell ⟨g, i, none⟩ (.int .u64 v)) T E b g (xs.set i v) := by
  refine ⟨?_, ?_⟩
  · rw [Below.heap_setCell _ _ _ _ h.ne, h.head]; simp
  · rw [obj_setCell h.row]; simp [List.map_set]

/-- Two rows that share no memory: a job's. -/
structure Pair (w : World) (T E a ga b gb : Nat) (xs ys : List Int) : Prop where
  cur : IsVec w T E a ga xs
  acc : IsVec w T E b gb ys
  d1 : ga ≠ b
  d2 : gb ≠ a
  d3 : ga ≠ gb
theorem Pair.setCur {w w' : World} {T E a ga b gb : Nat} {xs ys xs' : List Int} (h : Pair w T E a ga b gb xs ys) (k : Kept [ga] w w') (v : IsVec w' T E a ga xs') : Pair w' T E a ga b gb xs' ys :=
  ⟨v, h.acc.kept k (by have := h.d1; simp; omega) (by have := h.d3; simp; omega), h.d1, h.d2, h.d3⟩
theorem Pair.setAcc {w w' : World} {T E a ga b gb : Nat} {xs ys ys' : List Int} (h : Pair w T E a ga b gb xs ys) (k : Kept [gb] w w') (v : IsVec w' T E b gb ys') : Pair w' T E a ga b gb xs ys' :=
  ⟨h.cur.kept k (by have := h.d2; simp; omega) (by have := h.d3; simp; omega), v, h.d1, h.d2, h.d3⟩
theorem Pair.kept {S : List Nat} {w w' : World} {T E a ga b gb : Nat} {xs ys : List Int} (h : Pair w T E a ga b gb xs ys) (k : Kept S w w') (hs : a ∉ S ∧ ga ∉ S ∧ b ∉ S ∧ gb ∉ S) : Pair w' T E a ga b gb xs ys :=
  ⟨h.cur.kept k hs.1 hs.2.1, h.acc.kept k hs.2.2.1 hs.2.2.2, h.d1, h.d2, h.d3⟩
theorem Pair.ext {w w' : World} {T E a ga b gb : Nat} {xs ys : List Int} (h : Pair w T E a ga b gb xs ys) (k : Kept [] w w') : Pair w' T E a ga b gb xs ys := h.kept k (by simp)
theorem Pair.lt {w : World} {T E a ga b gb : Nat} {xs ys : List Int} (h : Pair w T E a ga b gb xs ys) : a < w.heap.size ∧ ga < w.heap.size ∧ b < w.heap.size ∧ gb < w.heap.size :=
  ⟨h.cur.lt.1, h.cur.lt.2, h.acc.lt.1, h.acc.lt.2⟩

/-- A variable of a call's own: no block of S. -/
structure Box (w : World) (S : List Nat) (k : Nat) (v : Value) : Prop where
  cell : w.cell? ⟨k, 0, none⟩ = some v
  off : k ∉ S
theorem Box.kept {S S' : List Nat} {w w' : World} {k : Nat} {v : Value} (h : Box w S k v) (q : Kept S' w w') (hs : ∀ j, j ∈ S' → j ∈ S) : Box w' S k v :=
  ⟨q.cell_some h.cell (fun hm => h.off (hs _ hm)), h.off⟩
theorem Box.ext {S : List Nat} {w w' : World} {k : Nat} {v : Value} (h : Box w S k v) (q : Kept [] w w') : Box w' S k v := h.kept q (by simp)

/-- A variable of several cells. -/
structure BoxO (w : World) (S : List Nat) (k : Nat) (o : Obj) : Prop where
  obj : w.heap[k]? = some o
  off : k ∉ S
theorem BoxO.kept {S S' : List Nat} {w w' : World} {k : Nat} {o : Obj} (h : BoxO w S k o) (q : Kept S' w w') (hs : ∀ j, j ∈ S' → j ∈ S) : BoxO w' S k o :=
  ⟨q.obj h.obj (fun hm => h.off (hs _ hm)), h.off⟩
theorem BoxO.ext {S : List Nat} {w w' : World} {k : Nat} {o : Obj} (h : BoxO w S k o) (q : Kept [] w w') : BoxO w' S k o := h.kept q (by simp)
theorem new_obj {w : World} {n : Nat} {o : Obj} (hn : n = w.heap.size) : (w.alloc o).heap[n]? = some o := by
  subst hn; exact obj_alloc_new w o

/-! ### Lists of vertices in memory, read alone: no block of L is among theirs -/

def nat (xs : List Nat) (i : Nat) : Nat := xs.getD i 0
theorem nat_eq {xs : List Nat} {i : Nat} (h : i < xs.length) : nat xs i = xs[i] := by simp [nat, h]
def row (xs : List (List Nat)) (i : Nat) : List Nat := xs.getD i []
theorem row_eq {xs : List (List Nat)} {i : Nat} (h : i < xs.length) : row xs i = xs[i] := by simp [row, h]

/-- A slice of whole numbers. -/
structure IsNats (w : World) (L : List Nat) (a : Option Addr) (xs : List Nat) : Prop where
  cells : ∀ i, i < xs.length → ∃ b o, a = some ⟨b, o, none⟩ ∧ b ∉ L ∧ w.cell? ⟨b, o + i, none⟩ = some (.int .i64 (nat xs i))

theorem IsNats.kept {S L : List Nat} {w w' : World} {a : Option Addr} {xs : List Nat} (h : IsNats w L a xs) (k : Kept S w w') (hs : ∀ k, k ∈ S → k ∈ L) : IsNats w' L a xs :=
  ⟨fun i hi => let ⟨b, o, ha, hb, hc⟩ := h.cells i hi; ⟨b, o, ha, hb, k.cell_some hc (fun hm => hb (hs _ hm))⟩⟩
theorem IsNats.to {L L' : List Nat} {w : World} {a : Option Addr} {xs : List Nat} (h : IsNats w L a xs) (hs : ∀ k, k ∈ L' → k ∈ L ∨ w.heap.size ≤ k) : IsNats w L' a xs :=
  ⟨fun i hi => let ⟨b, o, ha, hb, hc⟩ := h.cells i hi; ⟨b, o, ha, fun hm => (hs b hm).elim hb (fun hl => by have := World.block_lt_of_cell? w _ hc; simp at this; omega), hc⟩⟩
theorem IsNats.at {L : List Nat} {w : World} {a : Option Addr} {xs : List Nat} (h : IsNats w L a xs) (h0 : 0 < xs.length) :
    ∃ b o, a = some ⟨b, o, none⟩ ∧ b ∉ L ∧ ∀ i, i < xs.length → w.cell? ⟨b, o + i, none⟩ = some (.int .i64 (nat xs i)) := by
  obtain ⟨b, o, ha, hb, _⟩ := h.cells 0 h0
  refine ⟨b, o, ha, hb, fun i hi => ?_⟩
  obtain ⟨b', o', ha', _, hc⟩ := h.cells i hi
  rw [ha] at ha'
  simp only [Option.some.injEq, Addr.mk.injEq] at ha'
  obtain ⟨rfl, rfl, _⟩ := ha'
  exact hc

/-- A slice of such slices. -/
structure IsOut (w : World) (L : List Nat) (a : Option Addr) (xs : List (List Nat)) : Prop where
  cells : ∀ i, i < xs.length → ∃ b o, a = some ⟨b, o, none⟩ ∧ b ∉ L ∧ ∃ u c, w.cell? ⟨b, o + i, none⟩ = some (.slice u (row xs i).length c) ∧ IsNats w L u (row xs i)

theorem IsOut.kept {S L : List Nat} {w w' : World} {a : Option Addr} {xs : List (List Nat)} (h : IsOut w L a xs) (k : Kept S w w') (hs : ∀ k, k ∈ S → k ∈ L) : IsOut w' L a xs :=
  ⟨fun i hi => let ⟨b, o, ha, hb, u, c, hc, hn⟩ := h.cells i hi; ⟨b, o, ha, hb, u, c, k.cell_some hc (fun hm => hb (hs _ hm)), hn.kept k hs⟩⟩
theorem IsOut.to {L L' : List Nat} {w : World} {a : Option Addr} {xs : List (List Nat)} (h : IsOut w L a xs) (hs : ∀ k, k ∈ L' → k ∈ L ∨ w.heap.size ≤ k) : IsOut w L' a xs :=
  ⟨fun i hi => let ⟨b, o, ha, hb, u, c, hc, hn⟩ := h.cells i hi; ⟨b, o, ha, fun hm => (hs b hm).elim hb (fun hl => by have := World.block_lt_of_cell? w _ hc; simp at this; omega), u, c, hc, hn.to hs⟩⟩

/-- The edges of a shard, in order: where each begins, where it leads to, how many begin there. -/
def edgesOf : Nat → List (List Nat) → List (Nat × Nat × Nat)
  | _, [] => []
  | u, l :: r => l.map (fun v => (u, v, l.length)) ++ edgesOf (u + 1) r
/-- How many edges lie ahead of the vertex at place i. -/
def ahead (xs : List (List Nat)) (i : Nat) : Nat := ((xs.take i).map List.length).sum
theorem ahead_zero (xs : List (List Nat)) : ahead xs 0 = 0 := by simp [ahead]
theorem ahead_succ (xs : List (List Nat)) (i : Nat) (h : i < xs.length) : ahead xs (i + 1) = ahead xs i + (row xs i).length := by
  unfold ahead; rw [row_eq h, List.take_succ_eq_append_getElem h, List.map_append, List.sum_append]; simp
theorem edgesOf_length (u : Nat) (xs : List (List Nat)) : (edgesOf u xs).length = ahead xs xs.length := by
  unfold ahead
  rw [List.take_length]
  induction xs generalizing u with
  | nil => rfl
  | cons l r ih => simp [edgesOf, ih]
theorem edgesOf_mem (u : Nat) (xs : List (List Nat)) (e : Nat × Nat × Nat) (h : e ∈ edgesOf u xs) : ∃ i k, i < xs.length ∧ k < (row xs i).length ∧ e = (u + i, nat (row xs i) k, (row xs i).length) := by
  induction xs generalizing u with
  | nil => simp [edgesOf] at h
  | cons l r ih =>
    rw [edgesOf, List.mem_append] at h
    rcases h with h | h
    · obtain ⟨v, hv, rfl⟩ := List.mem_map.1 h
      obtain ⟨k, hk, rfl⟩ := List.getElem_of_mem hv
      exact ⟨0, k, by simp, by simpa [row] using hk, by simp [row, nat, hk]⟩
    · obtain ⟨i, k, hi, hk, rfl⟩ := ih _ h
      have e : row (l :: r) (i + 1) = row r i := by simp [row]
      exact ⟨i + 1, k, by simpa using hi, by rw [e]; exact hk, by rw [e]; congr 1; omega⟩
theorem edgesOf_at (u : Nat) (xs : List (List Nat)) (i j : Nat) (hi : i < xs.length) (hj : j < (row xs i).length) :
    (edgesOf u xs)[ahead xs i + j]? = some (u + i, nat (row xs i) j, (row xs i).length) := by
  induction xs generalizing u i with
  | nil => simp at hi
  | cons l r ih =>
    cases i with
    | zero =>
      have e : row (l :: r) 0 = l := by simp [row]
      rw [e] at hj ⊢
      simp [edgesOf, ahead, List.getElem?_append_left, hj, nat]
    | succ i =>
      have e : row (l :: r) (i + 1) = row r i := by simp [row]
      have e2 : ahead (l :: r) (i + 1) = l.length + ahead r i := by simp [ahead]
      rw [e] at hj ⊢
      rw [e2, edgesOf, List.getElem?_append_right (by simp; omega)]
      simp only [List.length_map]
      rw [show l.length + ahead r i + j - l.length = ahead r i + j by omega, ih (u + 1) i (by simpa using hi) hj]
      congr 2; omega
end Go.Proofs.YtedljgohmlilgaaGreat
