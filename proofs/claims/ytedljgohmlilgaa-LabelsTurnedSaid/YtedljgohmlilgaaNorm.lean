/-
  Normal lists of edges, and what shards cut of them: plain words, no program in sight.
-/
import Derived.Test.YtedljgohmlilgaaELn
import Derived.Test.YtedljgohmlilgaaSh
namespace Go.Proofs.Ytedljgohmlilgaa
set_option linter.unusedVariables false

def eLt (x y : Nat × Nat) : Prop := x.1 < y.1 ∨ (x.1 = y.1 ∧ x.2 < y.2)
theorem eLess_iff (x y : Nat × Nat) : eLess x y = true ↔ eLt x y := by simp [eLess, eLt]
theorem eLt.trans {x y z : Nat × Nat} (h : eLt x y) (k : eLt y z) : eLt x z := by unfold eLt at *; omega
theorem eLt.total {x y : Nat × Nat} (h : ¬ eLt x y) (hne : y ≠ x) : eLt y x := by
  unfold eLt at *
  have : ¬ (y.1 = x.1 ∧ y.2 = x.2) := fun e => hne (Prod.ext e.1 e.2)
  omega
/-- Strictly rising. -/
def Rising (es : List (Nat × Nat)) : Prop := es.Pairwise eLt

theorem spot_above (es : List (Nat × Nat)) (x : Nat × Nat) (k : Nat) : ∀ i, spot es x k ≤ i → i < k → eLt x (edge es i) := by
  induction k with
  | zero => intro i _ h; omega
  | succ k ih =>
    intro i h1 h2
    rw [spot] at h1
    split at h1
    · rename_i h
      by_cases e : i = k
      · subst e; exact (eLess_iff _ _).1 h
      · exact ih i h1 (by omega)
    · omega
theorem spot_below (es : List (Nat × Nat)) (x : Nat × Nat) (k : Nat) : 0 < spot es x k → ¬ eLt x (edge es (spot es x k - 1)) := by
  induction k with
  | zero => intro h; simp [spot] at h
  | succ k ih =>
    rw [spot]
    split
    · exact ih
    · rename_i h
      intro _
      rw [Nat.add_sub_cancel]
      rwa [← eLess_iff]
theorem putE_rising {es : List (Nat × Nat)} (h : Rising es) (x : Nat × Nat) : Rising (putE es x) := by
  unfold putE
  dsimp only
  have hle := spot_le es x es.length
  have ha := spot_above es x es.length
  have hb := spot_below es x es.length
  generalize spot es x es.length = s at *
  split
  · exact h
  · rename_i hne
    have hlow : ∀ e ∈ es.take s, eLt e x := by
      intro e he
      obtain ⟨i, hi, rfl⟩ := List.getElem_of_mem he
      rw [List.length_take] at hi
      rw [List.getElem_take]
      have hs : s - 1 < es.length := by omega
      have h1 : eLt (edge es (s - 1)) x := eLt.total (hb (by omega)) (fun e => hne ⟨by omega, e⟩)
      rw [edge_eq hs] at h1
      by_cases e : i = s - 1
      · subst e; exact h1
      · exact ((List.pairwise_iff_getElem.1 h) i (s - 1) (by omega) hs (by omega)).trans h1
    have hhigh : ∀ e ∈ es.drop s, eLt x e := by
      intro e he
      obtain ⟨i, hi, rfl⟩ := List.getElem_of_mem he
      rw [List.length_drop] at hi
      rw [List.getElem_drop]
      have := ha (s + i) (by omega) (by omega)
      rwa [edge_eq (by omega)] at this
    have hsp : Rising (es.take s ++ es.drop s) := by rw [List.take_append_drop]; exact h
    obtain ⟨p1, p2, p3⟩ := List.pairwise_append.1 hsp
    unfold putAt Rising
    rw [List.pairwise_append, List.pairwise_append]
    refine ⟨⟨p1, List.pairwise_singleton _ _, fun y hy z hz => ?_⟩, p2, fun y hy z hz => ?_⟩
    · simp at hz; subst hz; exact hlow y hy
    · rcases List.mem_append.1 hy with hy | hy
      · exact p3 y hy z hz
      · simp at hy; subst hy; exact hhigh z hz
theorem mem_putE (es : List (Nat × Nat)) (x e : Nat × Nat) : e ∈ putE es x ↔ e ∈ es ∨ e = x := by
  unfold putE
  dsimp only
  have hle := spot_le es x es.length
  generalize spot es x es.length = s at *
  split
  · rename_i h
    constructor
    · exact .inl
    · rintro (h2 | rfl)
      · exact h2
      · rw [← h.2, edge_eq (by omega)]; exact List.getElem_mem _
  · unfold putAt
    rw [List.mem_append, List.mem_append]
    have : e ∈ es ↔ e ∈ es.take s ∨ e ∈ es.drop s := by rw [← List.mem_append, List.take_append_drop]
    rw [this, List.mem_singleton]
    constructor
    · rintro ((h | h) | h)
      · exact .inl (.inl h)
      · exact .inr h
      · exact .inl (.inr h)
    · rintro ((h | h) | h)
      · exact .inl (.inl h)
      · exact .inr h
      · exact .inl (.inr h)
theorem foldl_putE (l acc : List (Nat × Nat)) (h : Rising acc) : Rising (l.foldl putE acc) ∧ ∀ e, e ∈ l.foldl putE acc ↔ e ∈ acc ∨ e ∈ l := by
  induction l generalizing acc with
  | nil => exact ⟨h, fun e => by simp⟩
  | cons x l ih =>
    obtain ⟨h1, h2⟩ := ih (putE acc x) (putE_rising h x)
    refine ⟨h1, fun e => ?_⟩
    rw [List.foldl_cons, h2, mem_putE, List.mem_cons]
    constructor
    · rintro ((h | h) | h)
      · exact .inl h
      · exact .inr (.inl h)
      · exact .inr (.inr h)
    · rintro (h | h | h)
      · exact .inl (.inl h)
      · exact .inl (.inr h)
      · exact .inr h
theorem normE_rising (l : List (Nat × Nat)) : Rising (normE l) := (foldl_putE l [] List.Pairwise.nil).1
theorem mem_normE (l : List (Nat × Nat)) (e : Nat × Nat) : e ∈ normE l ↔ e ∈ l := by
  have := (foldl_putE l [] List.Pairwise.nil).2 e
  simpa [normE] using this

theorem lead_rising {es : List (Nat × Nat)} (h : Rising es) (u : Nat) : (lead es u).Pairwise (· < ·) := by
  unfold lead
  rw [List.pairwise_map]
  have := List.Pairwise.filter (fun e : Nat × Nat => decide (e.1 = u)) h
  refine List.Pairwise.imp_of_mem (fun {a b} ha hb hab => ?_) this
  have h1 : a.1 = u := by simpa using (List.mem_filter.1 ha).2
  have h2 : b.1 = u := by simpa using (List.mem_filter.1 hb).2
  unfold eLt at hab
  omega
theorem mem_lead {es : List (Nat × Nat)} {u v : Nat} : v ∈ lead es u ↔ (u, v) ∈ es := by
  unfold lead
  rw [List.mem_map]
  constructor
  · rintro ⟨e, he, rfl⟩
    obtain ⟨h1, h2⟩ := List.mem_filter.1 he
    have : e.1 = u := by simpa using h2
    rw [← this]; exact h1
  · intro h
    exact ⟨(u, v), List.mem_filter.2 ⟨h, by simp⟩, rfl⟩

/-! ### What all shards of a graph say together -/
/-- The edges from one vertex. -/
def fromOne (es : List (Nat × Nat)) (u : Nat) : List (Nat × Nat × Nat) := (lead es u).map fun v => (u, v, (lead es u).length)
def tri (es : List (Nat × Nat)) (n : Nat) : List (Nat × Nat × Nat) := (List.range' 0 n).flatMap (fromOne es)
def shardEdges (es : List (Nat × Nat)) (c : Nat × Nat) : List (Nat × Nat × Nat) := edgesOf c.1 (rowsOf es c.1 (c.2 - c.1))
theorem rowsOf_range' (es : List (Nat × Nat)) (fr m : Nat) : rowsOf es fr m = (List.range' fr m).map (lead es) := by
  unfold rowsOf
  rw [List.range'_eq_map_range, List.map_map]
  rfl
theorem edgesOf_range' (es : List (Nat × Nat)) (u m : Nat) : edgesOf u ((List.range' u m).map (lead es)) = (List.range' u m).flatMap (fromOne es) := by
  induction m generalizing u with
  | zero => rfl
  | succ m ih =>
    rw [List.range'_succ, List.map_cons, edgesOf, ih, List.flatMap_cons]
    rfl
theorem shardEdges_eq (es : List (Nat × Nat)) (c : Nat × Nat) : shardEdges es c = (List.range' c.1 (c.2 - c.1)).flatMap (fromOne es) := by
  unfold shardEdges; rw [rowsOf_range', edgesOf_range']
theorem shards_upto (es : List (Nat × Nat)) (n s k : Nat) (hk : k ≤ s) : ((cuts n s).take k).flatMap (shardEdges es) = (List.range' 0 (k * n / s)).flatMap (fromOne es) := by
  induction k with
  | zero => simp
  | succ k ih =>
    rw [List.take_succ_eq_append_getElem (by rw [cuts_length]; omega), List.flatMap_append, ih (by omega)]
    have e : (cuts n s)[k]'(by rw [cuts_length]; omega) = cutAt n s k := by rw [← edge_eq (by rw [cuts_length]; omega), edge_cuts (by omega)]
    rw [e]
    simp only [List.flatMap_cons, List.flatMap_nil, List.append_nil]
    rw [shardEdges_eq, ← List.flatMap_append]
    congr 1
    have h : k * n / s ≤ (k + 1) * n / s := Nat.div_le_div_right (Nat.mul_le_mul_right _ (by omega))
    show List.range' 0 (k * n / s) ++ List.range' (k * n / s) ((k + 1) * n / s - k * n / s) = _
    have := List.range'_append (s := 0) (m := k * n / s) (n := (k + 1) * n / s - k * n / s) (step := 1)
    simp only [Nat.zero_add, Nat.one_mul] at this
    rw [this]
    congr 1
    omega
theorem shards_all (es : List (Nat × Nat)) {n s : Nat} (h : 1 ≤ s) : (cuts n s).flatMap (shardEdges es) = tri es n := by
  have := shards_upto es n s s (Nat.le_refl _)
  rw [List.take_of_length_le (by rw [cuts_length]; omega), Nat.mul_div_cancel_left _ (by omega)] at this
  exact this
theorem shards_next (es : List (Nat × Nat)) {n s k : Nat} (hk : k < s) : ((cuts n s).take (k + 1)).flatMap (shardEdges es) = ((cuts n s).take k).flatMap (shardEdges es) ++ shardEdges es (cutAt n s k) := by
  rw [List.take_succ_eq_append_getElem (by rw [cuts_length]; omega), List.flatMap_append, ← edge_eq (by rw [cuts_length]; omega), edge_cuts hk]
  simp
theorem mem_tri {es : List (Nat × Nat)} {n : Nat} {e : Nat × Nat × Nat} : e ∈ tri es n ↔ e.1 < n ∧ (e.1, e.2.1) ∈ es ∧ e.2.2 = (lead es e.1).length := by
  unfold tri fromOne
  rw [List.mem_flatMap]
  constructor
  · rintro ⟨u, hu, he⟩
    obtain ⟨v, hv, rfl⟩ := List.mem_map.1 he
    rw [List.mem_range'_1] at hu
    exact ⟨by simpa using hu.2, mem_lead.1 hv, rfl⟩
  · rintro ⟨h1, h2, h3⟩
    refine ⟨e.1, by rw [List.mem_range'_1]; omega, List.mem_map.2 ⟨e.2.1, mem_lead.2 h2, ?_⟩⟩
    rw [← h3]

/-- In order. -/
theorem filter_split (es : List (Nat × Nat)) (h : es.Pairwise fun x y => x.1 ≤ y.1) (n : Nat) : es.filter (fun e => decide (e.1 < n + 1)) = es.filter (fun e => decide (e.1 < n)) ++ es.filter (fun e => decide (e.1 = n)) := by
  induction es with
  | nil => rfl
  | cons e es ih =>
    rw [List.pairwise_cons] at h
    have ih := ih h.2
    rcases Nat.lt_trichotomy e.1 n with hl | he | hg
    · rw [List.filter_cons_of_pos (by simp; omega), List.filter_cons_of_pos (by simpa using hl), List.filter_cons_of_neg (by simp; omega), ih]; rfl
    · have h0 : es.filter (fun e => decide (e.1 < n)) = [] := by
        rw [List.filter_eq_nil_iff]; intro a ha; have := h.1 a ha; simp; omega
      rw [List.filter_cons_of_pos (by simp; omega), List.filter_cons_of_neg (by simp; omega), List.filter_cons_of_pos (by simpa using he), ih, h0]; rfl
    · rw [List.filter_cons_of_neg (by simp; omega), List.filter_cons_of_neg (by simp; omega), List.filter_cons_of_neg (by simp; omega), ih]
theorem filter_all (es : List (Nat × Nat)) (h : es.Pairwise fun x y => x.1 ≤ y.1) (n : Nat) : (List.range n).flatMap (fun u => es.filter (fun e => decide (e.1 = u))) = es.filter (fun e => decide (e.1 < n)) := by
  induction n with
  | zero => simp
  | succ n ih => rw [List.range_succ, List.flatMap_append, ih, filter_split es h]; simp
theorem tri_eq {es : List (Nat × Nat)} (h : Rising es) {n : Nat} (hn : ∀ e ∈ es, e.1 < n) : tri es n = es.map fun e => (e.1, e.2, (lead es e.1).length) := by
  have h1 : es.Pairwise fun x y => x.1 ≤ y.1 := h.imp fun {a b} hab => by unfold eLt at hab; omega
  have h2 := filter_all es h1 n
  rw [List.filter_eq_self.2 (by intro a ha; simpa using hn a ha)] at h2
  unfold tri fromOne
  rw [← List.range_eq_range']
  conv => rhs; arg 2; rw [← h2]
  rw [List.map_flatMap]
  congr 1
  funext u
  conv => lhs; arg 2; unfold lead
  rw [List.map_map]
  apply List.map_congr_left
  intro e he
  have : e.1 = u := by simpa using (List.mem_filter.1 he).2
  simp [this]

theorem within_rows {es : List (Nat × Nat)} {n : Nat} (h : ∀ e ∈ es, e.1 < n ∧ e.2 < n) (fr m : Nat) : Within (rowsOf es fr m) n := by
  intro i hi j hj
  rw [rowsOf_length] at hi
  rw [row_rowsOf _ _ _ _ hi] at hj ⊢
  rw [nat_eq hj]
  exact (h _ (mem_lead.1 (List.getElem_mem hj))).2
theorem rows_short {es : List (Nat × Nat)} {b : Nat} (h : es.length ≤ b) (fr m : Nat) : ∀ i, i < (rowsOf es fr m).length → (row (rowsOf es fr m) i).length ≤ b := by
  intro i hi
  rw [rowsOf_length] at hi
  rw [row_rowsOf _ _ _ _ hi]
  have := lead_length es (fr + i); omega
end Go.Proofs.Ytedljgohmlilgaa
