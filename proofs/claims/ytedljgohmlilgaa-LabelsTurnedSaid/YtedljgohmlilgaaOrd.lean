/-
  An order by numbers, in plain words: each place once. No program in sight.
-/
import Derived.Test.YtedljgohmlilgaaLow
import Derived.Test.YtedljgohmlilgaaCnt
import Derived.Test.YtedljgohmlilgaaPlR
namespace Go.Proofs.Ytedljgohmlilgaa
set_option linter.unusedVariables false

/-- Which of those that are left is taken. -/
def pick (bs : List Nat) (i len : Nat) : Nat := if i < bs.length then nat bs i % len else 0
theorem pick_lt (bs : List Nat) (i : Nat) {len : Nat} (h : 0 < len) : pick bs i len < len := by
  unfold pick; split
  · exact Nat.mod_lt _ h
  · exact h
def without (l : List Nat) (k : Nat) : List Nat := l.take k ++ l.drop (k + 1)
theorem without_perm {l : List Nat} {k : Nat} (h : k < l.length) : (nat l k :: without l k).Perm l := by
  unfold without
  rw [nat_eq h]
  refine List.Perm.trans (List.perm_middle (a := l[k]) (l₁ := l.take k) (l₂ := l.drop (k + 1))).symm ?_
  rw [← List.drop_eq_getElem_cons h, List.take_append_drop]
theorem without_length {l : List Nat} {k : Nat} (h : k < l.length) : (without l k).length + 1 = l.length := by
  have := (without_perm h).length_eq
  simpa using this
/-- What is left, what was taken, behind so many. -/
def leftAt (bs : List Nat) (m : Nat) : Nat → List Nat
  | 0 => List.range m
  | i + 1 => without (leftAt bs m i) (pick bs i (leftAt bs m i).length)
def tookAt (bs : List Nat) (m : Nat) : Nat → List Nat
  | 0 => []
  | i + 1 => tookAt bs m i ++ [nat (leftAt bs m i) (pick bs i (leftAt bs m i).length)]
def order (bs : List Nat) (m : Nat) : List Nat := tookAt bs m m
theorem leftAt_length (bs : List Nat) (m : Nat) : ∀ i, i ≤ m → (leftAt bs m i).length = m - i := by
  intro i
  induction i with
  | zero => intro _; simp [leftAt]
  | succ i ih =>
    intro hi
    have h1 := ih (by omega)
    have := without_length (pick_lt bs i (len := (leftAt bs m i).length) (by omega))
    show (without _ _).length = _
    omega
theorem tookAt_length (bs : List Nat) (m i : Nat) : (tookAt bs m i).length = i := by
  induction i with
  | zero => rfl
  | succ i ih => simp [tookAt, ih]
theorem took_perm (bs : List Nat) (m : Nat) : ∀ i, i ≤ m → (tookAt bs m i ++ leftAt bs m i).Perm (List.range m) := by
  intro i
  induction i with
  | zero => intro _; simp [tookAt, leftAt]
  | succ i ih =>
    intro hi
    have h1 := leftAt_length bs m i (by omega)
    refine List.Perm.trans ?_ (ih (by omega))
    show (tookAt bs m i ++ [_] ++ without _ _).Perm _
    rw [List.append_assoc, List.singleton_append]
    exact List.Perm.append_left _ (without_perm (pick_lt bs i (by omega)))
theorem order_perm (bs : List Nat) (m : Nat) : (order bs m).Perm (List.range m) := by
  have := took_perm bs m m (Nat.le_refl _)
  have h : leftAt bs m m = [] := List.length_eq_zero_iff.1 (by rw [leftAt_length bs m m (Nat.le_refl _)]; omega)
  rw [h, List.append_nil] at this
  exact this
theorem order_length (bs : List Nat) (m : Nat) : (order bs m).length = m := tookAt_length bs m m
theorem order_lt {bs : List Nat} {m i : Nat} (h : i < m) : nat (order bs m) i < m := by
  have h1 : i < (order bs m).length := by rw [order_length]; exact h
  have := (order_perm bs m).mem_iff (a := (order bs m)[i])
  rw [nat_eq h1]
  have := this.1 (List.getElem_mem h1)
  simpa using this

/-- The edges of the shards at such places, one behind the other. -/
def tour (es : List (Nat × Nat)) (n s : Nat) (os : List Nat) : List (Nat × Nat × Nat) := os.flatMap fun i => shardEdges es (cutAt n s i)
theorem tour_nil (es : List (Nat × Nat)) (n s : Nat) : tour es n s [] = [] := rfl
theorem tour_append (es : List (Nat × Nat)) (n s : Nat) (a b : List Nat) : tour es n s (a ++ b) = tour es n s a ++ tour es n s b := by simp [tour]
theorem tour_one (es : List (Nat × Nat)) (n s i : Nat) : tour es n s [i] = shardEdges es (cutAt n s i) := by simp [tour]
theorem take_nat {os : List Nat} {k : Nat} (h : k < os.length) : os.take (k + 1) = os.take k ++ [nat os k] := by
  rw [List.take_succ_eq_append_getElem h, nat_eq h]
theorem tour_next {es : List (Nat × Nat)} {n s : Nat} {os : List Nat} {k : Nat} (h : k < os.length) : tour es n s (os.take (k + 1)) = tour es n s (os.take k) ++ shardEdges es (cutAt n s (nat os k)) := by
  rw [take_nat h, tour_append, tour_one]
theorem tour_range {es : List (Nat × Nat)} {n s : Nat} (h : 1 ≤ s) : tour es n s (List.range s) = tri es n := by
  rw [← shards_all es h]
  unfold tour cuts
  rw [List.flatMap_map]
theorem perm_flatMap {α β : Type} {l m : List α} (f : α → List β) (h : l.Perm m) : (l.flatMap f).Perm (m.flatMap f) := by
  induction h with
  | nil => exact List.Perm.refl _
  | cons a _ ih => simp only [List.flatMap_cons]; exact ih.append_left _
  | swap a b l =>
    simp only [List.flatMap_cons]
    rw [← List.append_assoc, ← List.append_assoc]
    exact List.Perm.append_right _ List.perm_append_comm
  | trans _ _ h1 h2 => exact h1.trans h2
/-- In whatever order: the same edges. -/
theorem tour_perm {es : List (Nat × Nat)} {n s : Nat} (h : 1 ≤ s) {os : List Nat} (ho : os.Perm (List.range s)) : (tour es n s os).Perm (tri es n) := by
  rw [← tour_range h]
  exact perm_flatMap _ ho
theorem tour_within {es : List (Nat × Nat)} {n s : Nat} (h : 1 ≤ s) {os : List Nat} (ho : ∀ i ∈ os, i < s) {e : Nat × Nat × Nat} (he : e ∈ tour es n s os) : e ∈ tri es n := by
  rw [← tour_range h]
  obtain ⟨i, hi, he⟩ := List.mem_flatMap.1 he
  exact List.mem_flatMap.2 ⟨i, List.mem_range.2 (ho i hi), he⟩
/-- Some more of them add no edge. -/
theorem tour_more {es : List (Nat × Nat)} {n s : Nat} (h : 1 ≤ s) {os ms : List Nat} (ho : os.Perm (List.range s)) (hm : ∀ i ∈ ms, i < s) (e : Nat × Nat × Nat) : e ∈ tour es n s (os ++ ms) ↔ e ∈ tri es n := by
  rw [tour_append, List.mem_append, (tour_perm h ho).mem_iff]
  exact ⟨fun q => q.elim id (tour_within h hm), .inl⟩

theorem comes_perm {xs : List Int} {v : Nat} {T U : List (Nat × Nat × Nat)} (h : T.Perm U) : comes xs v T = comes xs v U := by
  induction h with
  | nil => rfl
  | cons e _ ih => simp only [comes, ih]
  | swap a b l => simp only [comes]; omega
  | trans _ _ h1 h2 => rw [h1, h2]
theorem rankShard_perm {xs ys : List Int} (hy : Words ys) {T U : List (Nat × Nat × Nat)} (h : T.Perm U) : rankShard xs ys T = rankShard xs ys U := by
  refine list_ext_nth (by rw [rankShard_length, rankShard_length]) fun i hi => ?_
  rw [rankShard_length] at hi
  rw [rankShard_nth _ _ _ _ hi hy, rankShard_nth _ _ _ _ hi hy, comes_perm h]
theorem coresShard_perm {xs ys : List Int} (hy : Words ys) {T U : List (Nat × Nat × Nat)} (h : T.Perm U) : coresShard xs ys T = coresShard xs ys U := by
  refine list_ext_nth (by rw [coresShard_length, coresShard_length]) fun i hi => ?_
  rw [coresShard_length] at hi
  rw [coresShard_nth _ _ hi hy, coresShard_nth _ _ hi hy, cnt_perm h]
end Go.Proofs.Ytedljgohmlilgaa
