/-
  Ranks in plain words: what a round hands on, and what a shard that is taken in twice adds. No program in sight.
-/
import Derived.Test.YtedljgohmlilgaaGr
namespace Go.Proofs.Ytedljgohmlilgaa
set_option linter.unusedVariables false

/-- The sum of the first k numbers; the same, as 64 bits have it. -/
def sumTo (f : Nat → Int) : Nat → Int
  | 0 => 0
  | k + 1 => sumTo f k + f k
def wsum (f : Nat → Int) : Nat → Int
  | 0 => 0
  | k + 1 => word (wsum f k + f k)
theorem wsum_in (f : Nat → Int) (k : Nat) : 0 ≤ wsum f k ∧ wsum f k < 18446744073709551616 := by
  cases k with
  | zero => simp [wsum]
  | succ k => exact word_in _
theorem word_id {x : Int} (h0 : 0 ≤ x) (h1 : x < 18446744073709551616) : word x = x := by unfold word; omega
theorem sumTo_nonneg {f : Nat → Int} {k : Nat} (h : ∀ i, i < k → 0 ≤ f i) : 0 ≤ sumTo f k := by
  induction k with
  | zero => simp [sumTo]
  | succ k ih =>
    have := ih (fun i hi => h i (by omega))
    have := h k (by omega)
    simp only [sumTo]; omega
theorem wsum_eq {f : Nat → Int} {k : Nat} (h : ∀ i, i < k → 0 ≤ f i) (hb : sumTo f k < 18446744073709551616) : wsum f k = sumTo f k := by
  induction k with
  | zero => rfl
  | succ k ih =>
    have h1 := sumTo_nonneg (fun i hi => h i (Nat.lt_succ_of_lt hi) : ∀ i, i < k → 0 ≤ f i)
    have h2 := h k (by omega)
    simp only [sumTo] at hb
    simp only [wsum, sumTo]
    rw [ih (fun i hi => h i (by omega)) (by omega)]
    exact word_id (by omega) hb
theorem sumTo_le {f g : Nat → Int} {k : Nat} (h : ∀ i, i < k → f i ≤ g i) : sumTo f k ≤ sumTo g k := by
  induction k with
  | zero => exact Int.le_refl _
  | succ k ih =>
    have := ih (fun i hi => h i (by omega))
    have := h k (by omega)
    simp only [sumTo]; omega
theorem sumTo_add (f g : Nat → Int) (k : Nat) : sumTo (fun i => f i + g i) k = sumTo f k + sumTo g k := by
  induction k with
  | zero => rfl
  | succ k ih => simp only [sumTo, ih]; omega
theorem sumTo_congr {f g : Nat → Int} {k : Nat} (h : ∀ i, i < k → f i = g i) : sumTo f k = sumTo g k := by
  induction k with
  | zero => rfl
  | succ k ih => simp only [sumTo]; rw [ih (fun i hi => h i (by omega)), h k (by omega)]
theorem sumTo_const (c : Int) (k : Nat) : sumTo (fun _ => c) k = k * c := by
  induction k with
  | zero => simp [sumTo]
  | succ k ih => simp only [sumTo, ih, Int.natCast_succ, Int.add_mul]; omega
theorem sumTo_one {f : Nat → Int} {n i : Nat} (hi : i < n) (h : ∀ i, i < n → 0 ≤ f i) : f i ≤ sumTo f n := by
  induction n with
  | zero => omega
  | succ n ih =>
    have h1 := sumTo_nonneg (fun i hi => h i (Nat.lt_succ_of_lt hi) : ∀ i, i < n → 0 ≤ f i)
    have h2 := h n (by omega)
    simp only [sumTo]
    by_cases e : i = n
    · subst e; omega
    · have := ih (by omega) (fun i hi => h i (by omega)); omega
theorem sumTo_set (ys : List Int) (i : Nat) (v : Int) (n : Nat) (hi : i < n) (hn : n ≤ ys.length) : sumTo (nth (ys.set i v)) n = sumTo (nth ys) n + v - nth ys i := by
  have key : ∀ k, k ≤ n → sumTo (nth (ys.set i v)) k = sumTo (nth ys) k + if i < k then v - nth ys i else 0 := by
    intro k
    induction k with
    | zero => intro _; simp [sumTo]
    | succ k ih =>
      intro hk
      simp only [sumTo]
      have ih := ih (by omega)
      have hs := nth_set ys i k v
      by_cases e : i = k
      · subst e
        rw [if_neg (by omega)] at ih
        rw [if_pos ⟨rfl, by omega⟩] at hs
        rw [ih, hs, if_pos (by omega)]; omega
      · rw [if_neg (fun h => e h.1)] at hs
        by_cases h : i < k
        · rw [if_pos h] at ih
          rw [ih, hs, if_pos (by omega)]; omega
        · rw [if_neg h] at ih
          rw [ih, hs, if_neg (by omega)]; omega
  rw [key n (Nat.le_refl _), if_pos hi]; omega

/-- What an edge hands on; what so many do. -/
def part (xs : List Int) (e : Nat × Nat × Nat) : Int := nth xs e.1 / (e.2.2 : Int)
def partSum (xs : List Int) : List (Nat × Nat × Nat) → Int
  | [] => 0
  | e :: es => part xs e + partSum xs es
theorem partSum_append (xs : List Int) (a b : List (Nat × Nat × Nat)) : partSum xs (a ++ b) = partSum xs a + partSum xs b := by
  induction a with
  | nil => simp [partSum]
  | cons e a ih => simp only [List.cons_append, partSum, ih]; omega
theorem part_nonneg {xs : List Int} (h : ∀ i, 0 ≤ nth xs i) (e : Nat × Nat × Nat) : 0 ≤ part xs e := Int.ediv_nonneg (h _) (by omega)
theorem partSum_nonneg {xs : List Int} (h : ∀ i, 0 ≤ nth xs i) (es : List (Nat × Nat × Nat)) : 0 ≤ partSum xs es := by
  induction es with
  | nil => exact Int.le_refl _
  | cons e es ih => have := part_nonneg h e; simp only [partSum]; omega
theorem nth_nonneg_of {ys : List Int} {n : Nat} (hl : ys.length ≤ n) (h : ∀ i, i < n → 0 ≤ nth ys i) (i : Nat) : 0 ≤ nth ys i := by
  by_cases hi : i < n
  · exact h i hi
  · simp [nth, show ys.length ≤ i by omega]
theorem rankShard_sum {xs : List Int} (hx : ∀ i, 0 ≤ nth xs i) {n : Nat} (T : List (Nat × Nat × Nat)) : ∀ (ys : List Int), ys.length = n → (∀ i, 0 ≤ nth ys i) → (∀ e ∈ T, e.2.1 < n) → sumTo (nth ys) n + partSum xs T < 18446744073709551616 →
    sumTo (nth (rankShard xs ys T)) n = sumTo (nth ys) n + partSum xs T ∧ ∀ i, 0 ≤ nth (rankShard xs ys T) i := by
  induction T with
  | nil => intro ys _ hy _ _; exact ⟨by simp [rankShard, partSum], hy⟩
  | cons e T ih =>
    intro ys hl hy hT hb
    have he := hT e (by simp)
    have p0 := part_nonneg hx e
    have p1 := partSum_nonneg hx T
    simp only [partSum] at hb
    have h1 := sumTo_one (f := nth ys) he (fun i _ => hy i)
    have hw : word (nth ys e.2.1 + part xs e) = nth ys e.2.1 + part xs e := word_id (by have := hy e.2.1; omega) (by omega)
    have hs : sumTo (nth (rankEdge xs ys e)) n = sumTo (nth ys) n + part xs e := by
      show sumTo (nth (ys.set e.2.1 (word (nth ys e.2.1 + part xs e)))) n = _
      rw [hw, sumTo_set _ _ _ _ he (by omega)]; omega
    have hy2 : ∀ i, 0 ≤ nth (rankEdge xs ys e) i := by
      intro i
      show 0 ≤ nth (ys.set e.2.1 (word (nth ys e.2.1 + part xs e))) i
      rw [nth_set]; split
      · exact (word_in _).1
      · exact hy i
    have := ih (rankEdge xs ys e) (by rw [rankEdge_length]; exact hl) hy2 (fun e he => hT e (by simp [he])) (by rw [hs]; omega)
    show sumTo (nth (rankShard xs (rankEdge xs ys e) T)) n = _ ∧ _
    rw [this.1, hs]
    exact ⟨by simp only [partSum]; omega, this.2⟩

/-- What a vertex has to hand on. -/
def gives (es : List (Nat × Nat)) (xs : List Int) (v : Nat) : Int := if lead es v = [] then 0 else nth xs v
theorem partSum_fromOne (es : List (Nat × Nat)) (xs : List Int) (u : Nat) : partSum xs (fromOne es u) = (lead es u).length * (nth xs u / ((lead es u).length : Int)) := by
  unfold fromOne
  generalize hd : (lead es u).length = d
  have : ∀ l : List Nat, partSum xs (l.map fun v => (u, v, d)) = l.length * (nth xs u / (d : Int)) := by
    intro l
    induction l with
    | nil => simp [partSum]
    | cons v l ih => simp only [List.map_cons, partSum, ih, part, List.length_cons, Int.natCast_succ, Int.add_mul]; omega
  rw [this, hd]
theorem fromOne_between (es : List (Nat × Nat)) {xs : List Int} (hx : ∀ i, 0 ≤ nth xs i) (u : Nat) : partSum xs (fromOne es u) ≤ gives es xs u ∧ gives es xs u ≤ partSum xs (fromOne es u) + (lead es u).length := by
  rw [partSum_fromOne]
  unfold gives
  split
  · rename_i h; rw [h]; simp
  · rename_i h
    have hd : 0 < (lead es u).length := List.length_pos_iff.2 h
    generalize (lead es u).length = d at *
    have h0 := hx u
    generalize nth xs u = x at *
    have h1 := Int.mul_ediv_add_emod x d
    have h2 := Int.emod_nonneg x (b := (d : Int)) (by omega)
    have h3 := Int.emod_lt_of_pos x (b := (d : Int)) (by omega)
    omega
theorem tri_succ (es : List (Nat × Nat)) (k : Nat) : tri es (k + 1) = tri es k ++ fromOne es k := by
  unfold tri
  rw [← List.range_eq_range', ← List.range_eq_range', List.range_succ, List.flatMap_append]; simp
theorem tri_between (es : List (Nat × Nat)) {xs : List Int} (hx : ∀ i, 0 ≤ nth xs i) (k : Nat) : partSum xs (tri es k) ≤ sumTo (gives es xs) k ∧ sumTo (gives es xs) k ≤ partSum xs (tri es k) + ((tri es k).length : Int) := by
  induction k with
  | zero => simp [tri, partSum, sumTo]
  | succ k ih =>
    rw [tri_succ, partSum_append, List.length_append]
    have := fromOne_between es hx k
    have e : (fromOne es k).length = (lead es k).length := by simp [fromOne]
    simp only [sumTo]
    omega
/-- A rank's round. -/
def rankRow (es : List (Nat × Nat)) (n : Nat) : Nat → List Int
  | 0 => tab (fun _ => one) n
  | r + 1 => tab (fun i => ranked (nth (rankShard (rankRow es n r) (tab (fun _ => 0) n) (tri es n)) i)) n
def rankAcc (es : List (Nat × Nat)) (n r : Nat) : List Int := rankShard (rankRow es n r) (tab (fun _ => 0) n) (tri es n)
theorem rankRow_length (es : List (Nat × Nat)) (n r : Nat) : (rankRow es n r).length = n := by cases r <;> simp [rankRow, tab_length]
theorem rankAcc_length (es : List (Nat × Nat)) (n r : Nat) : (rankAcc es n r).length = n := by simp [rankAcc, rankShard_length, tab_length]
theorem rankRow_succ (es : List (Nat × Nat)) (n r : Nat) : rankRow es n (r + 1) = tab (fun i => ranked (nth (rankAcc es n r) i)) n := rfl
theorem ranked_in (y : Int) : 0 ≤ ranked y ∧ ranked y < 18446744073709551616 := word_in _
theorem ranked_le {y : Int} (h0 : 0 ≤ y) (h1 : y < 4503599627370496) : ranked y ≤ 644245094 + y := by
  unfold ranked
  have : word (y * 850) = y * 850 := word_id (by omega) (by omega)
  rw [this]
  have q0 : 0 ≤ y * 850 / 1000 := by omega
  have q1 : y * 850 / 1000 ≤ y := by omega
  generalize y * 850 / 1000 = q at *
  rw [word_id (by omega) (by omega)]
  omega
theorem rankRow_words (es : List (Nat × Nat)) (n r : Nat) : Words (rankRow es n r) := by
  cases r with
  | zero => exact Words.tab n (fun _ => by unfold one; omega)
  | succ r => exact Words.tab n (fun i => ranked_in _)
theorem rankAcc_words (es : List (Nat × Nat)) (n r : Nat) : Words (rankAcc es n r) := rankShard_words (Words.tab n (fun _ => by omega)) _
theorem sumTo_tab (g : Nat → Int) (n : Nat) : sumTo (nth (tab g n)) n = sumTo g n := sumTo_congr fun i hi => nth_tab _ _ _ hi
/-- No sum grows far: ranks of a few rounds. -/
theorem rank_bound {es : List (Nat × Nat)} {n : Nat} (G : Graphy n es) (r : Nat) (hr : r ≤ 100) :
    sumTo (nth (rankRow es n r)) n ≤ (r + 1) * 1099511627776 ∧ sumTo (nth (rankAcc es n r)) n = partSum (rankRow es n r) (tri es n) ∧ (∀ i, 0 ≤ nth (rankAcc es n r) i) ∧ partSum (rankRow es n r) (tri es n) ≤ sumTo (gives es (rankRow es n r)) n ∧ sumTo (gives es (rankRow es n r)) n ≤ sumTo (nth (rankRow es n r)) n := by
  have hT : ∀ e ∈ tri es n, e.2.1 < n := fun e he => G.lt2 _ (mem_tri.1 he).2.1
  have step : ∀ r, r ≤ 100 → sumTo (nth (rankRow es n r)) n ≤ (r + 1) * 1099511627776 → sumTo (nth (rankAcc es n r)) n = partSum (rankRow es n r) (tri es n) ∧ (∀ i, 0 ≤ nth (rankAcc es n r) i) ∧ partSum (rankRow es n r) (tri es n) ≤ sumTo (gives es (rankRow es n r)) n ∧ sumTo (gives es (rankRow es n r)) n ≤ sumTo (nth (rankRow es n r)) n := by
    intro r hr h
    have hx : ∀ i, 0 ≤ nth (rankRow es n r) i := fun i => (rankRow_words es n r i).1
    have h1 := tri_between es hx n
    have h2 : sumTo (gives es (rankRow es n r)) n ≤ sumTo (nth (rankRow es n r)) n := sumTo_le fun i _ => by
      unfold gives; split
      · exact hx i
      · exact Int.le_refl _
    have h3 : sumTo (nth (tab (fun _ => (0 : Int)) n)) n = 0 := by rw [sumTo_tab, sumTo_const]; simp
    have := rankShard_sum hx (n := n) (tri es n) (tab (fun _ => 0) n) (tab_length _ _) (fun i => (Words.tab n (g := fun _ => 0) (fun _ => by omega) i).1) hT (by rw [h3]; omega)
    rw [h3] at this
    exact ⟨by rw [rankAcc, this.1]; omega, this.2, h1.1, h2⟩
  have main : sumTo (nth (rankRow es n r)) n ≤ (r + 1) * 1099511627776 := by
    have n60 := G.n60
    induction r with
    | zero =>
      show sumTo (nth (tab (fun _ => one) n)) n ≤ _
      rw [sumTo_tab, sumTo_const]
      unfold one; omega
    | succ r ih =>
      have ih := ih (by omega)
      obtain ⟨a1, a2, a3, a4⟩ := step r (by omega) ih
      rw [rankRow_succ, sumTo_tab]
      have : sumTo (fun i => ranked (nth (rankAcc es n r) i)) n ≤ sumTo (fun i => 644245094 + nth (rankAcc es n r) i) n := by
        refine sumTo_le fun i hi => ranked_le (a2 i) ?_
        have := sumTo_one (f := nth (rankAcc es n r)) hi (fun i _ => a2 i)
        omega
      rw [sumTo_add, sumTo_const] at this
      have : (n : Int) * 644245094 ≤ 1099511627776 := by omega
      omega
  exact ⟨main, step r hr main⟩
/-- What is handed on, and what was there: as the law asks. -/
theorem rank_share {es : List (Nat × Nat)} {n : Nat} (G : Graphy n es) (r : Nat) (hr : r ≤ 100) :
    wsum (nth (rankAcc es n r)) n ≤ wsum (gives es (rankRow es n r)) n ∧ wsum (gives es (rankRow es n r)) n ≤ wsum (nth (rankAcc es n r)) n + es.length ∧ word (wsum (gives es (rankRow es n r)) n - wsum (nth (rankAcc es n r)) n) ≤ es.length := by
  obtain ⟨h1, h2, h3, h4, h5⟩ := rank_bound G r hr
  have hx : ∀ i, 0 ≤ nth (rankRow es n r) i := fun i => (rankRow_words es n r i).1
  have h6 := tri_between es hx n
  have h7 : (tri es n).length = es.length := by rw [tri_eq G.rise G.lt1, List.length_map]
  have h8 := partSum_nonneg hx (tri es n)
  have e1 : wsum (nth (rankAcc es n r)) n = partSum (rankRow es n r) (tri es n) := by
    rw [wsum_eq (fun i _ => h3 i) (by omega), h2]
  have e2 : wsum (gives es (rankRow es n r)) n = sumTo (gives es (rankRow es n r)) n := by
    refine wsum_eq (fun i _ => ?_) (by omega)
    unfold gives; split
    · exact Int.le_refl _
    · exact hx i
  rw [e1, e2]
  have h9 := G.len
  refine ⟨h4, by omega, ?_⟩
  rw [word_id (by omega) (by omega)]; omega

/-! ### Twice -/
/-- What comes to a vertex. -/
def comes (xs : List Int) (v : Nat) : List (Nat × Nat × Nat) → Int
  | [] => 0
  | e :: es => (if e.2.1 = v then part xs e else 0) + comes xs v es
theorem rankShard_nth (xs : List Int) (v : Nat) (T : List (Nat × Nat × Nat)) : ∀ ys : List Int, v < ys.length → Words ys → nth (rankShard xs ys T) v = word (nth ys v + comes xs v T) := by
  induction T with
  | nil => intro ys hv hy; have := hy v; simp only [rankShard, List.foldl_nil, comes]; rw [Int.add_zero, word_id this.1 this.2]
  | cons e T ih =>
    intro ys hv hy
    show nth (rankShard xs (rankEdge xs ys e) T) v = _
    rw [ih _ (by rw [rankEdge_length]; exact hv) (rankEdge_words hy e)]
    show word (nth (ys.set e.2.1 (word (nth ys e.2.1 + part xs e))) v + _) = _
    rw [nth_set]
    simp only [comes]
    by_cases h : e.2.1 = v
    · subst h
      rw [if_pos ⟨rfl, hv⟩, if_pos rfl]
      unfold word; omega
    · rw [if_neg (fun q => h q.1), if_neg h, Int.zero_add]
theorem rank_twice {xs ys zs : List Int} {n : Nat} (T : List (Nat × Nat × Nat)) (hy : ys.length = n) (hz : zs.length = n) (wy : Words ys) (wz : Words zs) (z0 : ∀ i, nth zs i = 0) {v : Nat} (hv : v < n) :
    nth (rankShard xs (rankShard xs ys T) T) v = word (word (nth ys v + nth (rankShard xs zs T) v) + nth (rankShard xs zs T) v) := by
  rw [rankShard_nth _ _ _ _ (by rw [rankShard_length, hy]; exact hv) (rankShard_words wy T), rankShard_nth _ _ _ _ (by rw [hy]; exact hv) wy, rankShard_nth _ _ _ _ (by rw [hz]; exact hv) wz, z0]
  unfold word; omega

/-! ### What the walks of the laws share -/
theorem tab_zeros (n : Nat) : tab (fun _ => (0 : Int)) n = zeros n := list_ext_nth (by rw [tab_length, zeros_length]) (fun i hi => by rw [tab_length] at hi; rw [nth_tab _ _ _ hi, nth_eq (by rw [zeros_length]; exact hi)]; simp [zeros])
theorem ShardAt.kept {S L : List Nat} {w w' : World} {g i fr m bo : Nat} {es : List (Nat × Nat)} (h : ShardAt w L g i fr m bo es) (k : Kept S w w') (hg : g ∉ S) (hs : ∀ j, j ∈ S → j ∈ L) : ShardAt w' L g i fr m bo es :=
  ⟨k.cell_some h.c0 hg, k.cell_some h.c1 hg, k.cell_some h.c2 hg, h.out.kept k hs⟩
theorem ShardAt.lt {L : List Nat} {w : World} {g i fr m bo : Nat} {es : List (Nat × Nat)} (h : ShardAt w L g i fr m bo es) : g < w.heap.size := World.block_lt_of_cell? w _ h.c0
theorem IsShards.lt {w : World} {B g n s c : Nat} {es : List (Nat × Nat)} (h : IsShards w B (.slice (some ⟨g, 0, none⟩) s c) es (cuts n s)) (h1 : 1 ≤ s) (h2 : s ≤ n) : g < w.heap.size := by
  obtain ⟨g', _, _, _, e, _, _, hs⟩ := h.shard h1 h2 (i := 0) h1 (Kept.refl [] w) [] (by simp)
  simp only [Option.some.injEq, Addr.mk.injEq] at e
  rw [e.1]; exact hs.lt
end Go.Proofs.Ytedljgohmlilgaa
