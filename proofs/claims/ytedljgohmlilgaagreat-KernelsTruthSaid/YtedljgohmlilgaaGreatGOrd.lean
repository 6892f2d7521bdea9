/-
  Ranks in plain words: what a round hands on, and what a shard that is taken in twice adds. No program in sight.
-/
import Derived.Test.YtedljgohmlilgaaGreatGNorm
namespace Go.Proofs.YtedljgohmlilgaaGreat
set_option linter.unusedVariables false

/-- The sum of the first k numbers; the same, as 64 bits have it. -/
def sumTo (f : Nat → Int) : Nat → Int
  | 0 => 0
  | k + 1 => sumTo f k + f k
def wsum (f : Nat → Int) : Nat → Int
  | 0 => 0
  | k + 1 => word (wsum f k + f k)
theorem wsum_in (f : Nat → Int) (k : Nat) : 0 ≤ wsum f k ∧ wsum f k < 18446744073709551616 := by
  cases k with
  | zero => simp [wsum]
  | succ k => exact word_in _
theorem word_id {x : Int} (h0 : 0 ≤ x) (h1 : x < 18446744073709551616) : word x = x := by unfold word; omega
theorem sumTo_nonneg {f : Nat → Int} {k : Nat} (h : ∀ i, i < k → 0 ≤ f i) : 0 ≤ sumTo f k := by
  induction k with
  | zero => simp [sumTo]
  | succ k ih =>
    have := ih (fun i hi => h i (by omega))
    have := h k (by omega)
    simp only [sumTo]; omega
theorem wsum_eq {f : Nat → Int} {k : Nat} (h : ∀ i, i < k → 0 ≤ f i) (hb : sumTo f k < 18446744073709551616) : wsum f k = sumTo f k := by
  induction k with
  | zero => rfl
  | succ k ih =>
    have h1 := sumTo_nonneg (fun i hi => h i (Nat.lt_succ_of_lt hi) : ∀ i, i < k → 0 ≤ f i)
    have h2 := h k (by omega)
    simp only [sumTo] at hb
    simp only [wsum, sumTo]
    rw [ih (fun i hi => h i (by omega)) (by omega)]
    exact word_id (by omega) hb
theorem sumTo_le {f g : Nat → Int} {k : Nat} (h : ∀ i, i < k → f i ≤ g i) : sumTo f k ≤ sumTo g k := by
  induction k with
  | zero => exact Int.le_refl _
  | succ k ih =>
    have := ih (fun i hi => h i (by omega))
    have := h k (by omega)
    simp only [sumTo]; omega
theorem sumTo_add (f g : Nat → Int) (k : Nat) : sumTo (fun i => f i + g i) k = sumTo f k + sumTo g k := by
  induction k with
  | zero => rfl
  | succ k ih => simp only [sumTo, ih]; omega
theorem sumTo_congr {f g : Nat → Int} {k : Nat} (h : ∀ i, i < k → f i = g i) : sumTo f k = sumTo g k := by
  induction k with
  | zero => rfl
  | succ k ih => simp only [sumTo]; rw [ih (fun i hi => h i (by omega)), h k (by omega)]
theorem sumTo_const (c : Int) (k : Nat) : sumTo (fun _ => c) k = k * c := by
  induction k with
  | zero => simp [sumTo]
  | succ k ih => simp only [sumTo, ih, Int.natCast_succ, Int.add_mul]; omega
theorem sumTo_one {f : Nat → Int} {n i : Nat} (hi : i < n) (h : ∀ i, i < n → 0 ≤ f i) : f i ≤ sumTo f n := by
  induction n with
  | zero => omega
  | succ n ih =>
    have h1 := sumTo_nonneg (fun i hi => h i (Nat.lt_succ_of_lt hi) : ∀ i, i < n → 0 ≤ f i)
    have h2 := h n (by omega)
    simp only [sumTo]
    by_cases e : i = n
    · subst e; omega
    · have := ih (by omega) (fun i hi => h i (by omega)); omega
theorem sumTo_set (ys : List Int) (i : Nat) (v : Int) (n : Nat) (hi : i < n) (hn : n ≤ ys.length) : sumTo (nth (ys.set i v)) n = sumTo (nth ys) n + v - nth ys i := by
  have key : ∀ k, k ≤ n → sumTo (nth (ys.set i v)) k = sumTo (nth ys) k + if i < k then v - nth ys i else 0 := by
    intro k
    induction k with
    | zero => intro _; simp [sumTo]
    | succ k ih =>
      intro hk
      simp only [sumTo]
      have ih := ih (by omega)
      have hs := nth_set ys i k v
      by_cases e : i = k
      · subst e
        rw [if_neg (by omega)] at ih
        rw [if_pos ⟨rfl, by omega⟩] at hs
        rw [ih, hs, if_pos (by omega)]; omega
      · rw [if_neg (fun h => e h.1)] at hs
        by_cases h : i < k
        · rw [if_pos h] at ih
          rw [ih, hs, if_pos (by omega)]; omega
        · rw [if_neg h] at ih
          rw [ih, hs, if_neg (by omega)]; omega
  rw [key n (Nat.le_refl _), if_pos hi]; omega

/-- What an edge hands on; what so many do. -/
def part (xs : List Int) (e : Nat × Nat × Nat) : Int := nth xs e.1 / (e.2.2 : Int)
def partSum (xs : List Int) : List (Nat × Nat × Nat) → Int
  | [] => 0
  | e :: es => part xs e + partSum xs es
theorem partSum_append (xs : List Int) (a b : List (Nat × Nat × Nat)) : partSum xs (a ++ b) = partSum xs a + partSum xs b := by
  induction a with
  | nil => simp [partSum]
  | cons e a ih => simp only [List.cons_append, partSum, ih]; omega
theorem part_nonneg {xs : List Int} (h : ∀ i, 0 ≤ nth xs i) (e : Nat × Nat × Nat) : 0 ≤ part xs e := Int.ediv_nonneg (h _) (by omega)
theorem partSum_nonneg {xs : List Int} (h : ∀ i, 0 ≤ nth xs i) (es : List (Nat × Nat × Nat)) : 0 ≤ partSum xs es := by
  induction es with
  | nil => exact Int.le_refl _
  | cons e es ih => have := part_nonneg h e; simp only [partSum]; omega
theorem nth_nonneg_of {ys : List Int} {n : Nat} (hl : ys.length ≤ n) (h : ∀ i, i < n → 0 ≤ nth ys i) (i : Nat) : 0 ≤ nth ys i := by
  by_cases hi : i < n
  · exact h i hi
  · simp [nth, show ys.length ≤ i by omega]
theorem rankShard_sum {xs : List Int} (hx : ∀ i, 0 ≤ nth xs i) {n : Nat} (T : List (Nat × Nat × Nat)) : ∀ (ys : List Int), ys.length = n → (∀ i, 0 ≤ nth ys i) → (∀ e ∈ T, e.2.1 < n) → sumTo (nth ys) n + partSum xs T < 18446744073709551616 →
    sumTo (nth (rankShard xs ys T)) n = sumTo (nth ys) n + partSum xs T ∧ ∀ i, 0 ≤ nth (rankShard xs ys T) i := by
  induction T with
  | nil => intro ys _ hy _ _; exact ⟨by simp [rankShard, partSum], hy⟩
  | cons e T ih =>
    intro ys hl hy hT hb
    have he := hT e (by simp)
    have p0 := part_nonneg hx e
    have p1 := partSum_nonneg hx T
    simp only [partSum] at hb
    have h1 := sumTo_one (f := nth ys) he (fun i _ => hy i)
    have hw : word (nth ys e.2.1 + part xs e) = nth ys e.2.1 + part xs e := word_id (by have := hy e.2.1; omega) (by omega)
    have hs : sumTo (nth (rankEdge xs ys e)) n = sumTo (nth ys) n + part xs e := by
      show sumTo (nth (ys.set e.2.1 (word (nth ys e.2.1 + part xs e)))) n = _
      rw [hw, sumTo_set _ _ _ _ he (by omega)]; omega
    have hy2 : ∀ i, 0 ≤ nth (rankEdge xs ys e) i := by
      intro i
      show 0 ≤ nth (ys.set e.2.1 (word (nth ys e.2.1 + part xs e))) i
      rw [nth_set]; split
      · exact (word_in _).1
      · exact hy i
    have := ih (rankEdge xs ys e) (by rw [rankEdge_length]; exact hl) hy2 (fun e he => hT e (by simp [he])) (by rw [hs]; omega)
    show sumTo (nth (rankShard xs (rankEdge xs ys e) T)) n = _ ∧ _
    rw [this.1, hs]
    exact ⟨by simp only [partSum]; omega, this.2⟩

/-- What a vertex has to hand on. -/
def gives (es : List (Nat × Nat)) (xs : List Int) (v : Nat) : Int := if lead es v = [] then 0 else nth xs v
theorem partSum_fromOne (es : List (Nat × Nat)) (xs : List Int) (u : Nat) : partSum xs (fromOne es u) = (lead es u).length * (nth xs u / ((lead es u).length : Int)) := by
  unfold fromOne
  generalize hd : (lead es u).length = d
  have : ∀ l : List Nat, partSum xs (l.map fun v => (u, v, d)) = l.length * (nth xs u / (d : Int)) := by
    intro l
    induction l with
    | nil => simp [partSum]
    | cons v l ih => simp only [List.map_cons, partSum, ih, part, List.length_cons, Int.natCast_succ, Int.add_mul]; omega
  rw [this, hd]
theorem fromOne_between (es : List (Nat × Nat)) {xs : List Int} (hx : ∀ i, 0 ≤ nth xs i) (u : Nat) : partSum xs (fromOne es u) ≤ gives es xs u ∧ gives es xs u ≤ partSum xs (fromOne es u) + (lead es u).length := by
  rw [partSum_fromOne]
  unfold gives
  split
  · rename_i h; rw [h]; simp
  · rename_i h
    have hd : 0 < (lead es u).length := List.length_pos_iff.2 h
    generalize (lead es u).length = d at *
    have h0 := hx u
    generalize nth xs u = x at *
    have h1 := Int.mul_ediv_add_emod x d
    have h2 := Int.emod_nonneg x (b := (d : Int)) (by omega)
    have h3 := Int.emod_lt_of_pos x (b := (d : Int)) (by omega)
    omega
theorem tri_succ (es : List (Nat × Nat)) (k : Nat) : tri es (k + 1) = tri es k ++ fromOne es k := by
  unfold tri
  rw [← List.range_eq_range', ← List.range_eq_range', List.range_succ, List.flatMap_append]; simp
theorem tri_between (es : List (Nat × Nat)) {xs : List Int} (hx : ∀ i, 0 ≤ nth xs i) (k : Nat) : partSum xs (tri es k) ≤ sumTo (gives es xs) k ∧ sumTo (gives es xs) k ≤ partSum xs (tri es k) + ((tri es k).length : Int) := by
  induction k with
  | zero => simp [tri, partSum, sumTo]
  | succ k ih =>
    rw [tri_succ, partSum_append, List.length_append]
    have := fromOne_between es hx k
    have e : (fromOne es k).length = (lead es k).length := by simp [fromOne]
    simp only [sumTo]
    omega
/-- A rank's round. -/
def rankRow (es : List (Nat × Nat)) (n : Nat) : Nat → List Int
  | 0 => tab (fun _ => one) n
  | r + 1 => tab (fun i => ranked (nth (rankShard (rankRow es n r) (tab (fun _ => 0) n) (tri es n)) i)) n
def rankAcc (es : List (Nat × Nat)) (n r : Nat) : List Int := rankShard (rankRow es n r) (tab (fun _ => 0) n) (tri es n)
theorem rankRow_length (es : List (Nat × Nat)) (n r : Nat) : (rankRow es n r).length = n := by cases r <;> simp [rankRow, tab_length]
theorem rankAcc_length (es : List (Nat × Nat)) (n r : Nat) : (rankAcc es n r).length = n := by simp [rankAcc, rankShard_length, tab_length]
theorem rankRow_succ (es : List (Nat × Nat)) (n r : Nat) : rankRow es n (r + 1) = tab (fun i => ranked (nth (rankAcc es n r) i)) n := rfl
theorem ranked_in (y : Int) : 0 ≤ ranked y ∧ ranked y < 18446744073709551616 := word_in _
theorem ranked_le {y : Int} (h0 : 0 ≤ y) (h1 : y < 4503599627370496) : ranked y ≤ 644245094 + y := by
  unfold ranked
  have : word (y * 850) = y * 850 := word_id (by omega) (by omega)
  rw [this]
  have q0 : 0 ≤ y * 850 / 1000 := by omega
  have q1 : y * 850 / 1000 ≤ y := by omega
  generalize y * 850 / 1000 = q at *
  rw [word_id (by omega) (by omega)]
  omega
theorem rankRow_words (es : List (Nat × Nat)) (n r : Nat) : Words (rankRow es n r) := by
  cases r with
  | zero => exact Words.tab n (fun _ => by unfold one; omega)
  | succ r => exact Words.tab n (fun i => ranked_in _)
theorem rankAcc_words (es : List (Nat × Nat)) (n r : Nat) : Words (rankAcc es n r) := rankShard_words (Words.tab n (fun _ => by omega)) _
theorem sumTo_tab (g : Nat → Int) (n : Nat) : sumTo (nth (tab g n)) n = sumTo g n := sumTo_congr fun i hi => nth_tab _ _ _ hi
/-- No sum grows far: ranks of a few rounds. -/
theorem rank_bound {es : List (Nat × Nat)} {n : Nat} (G : Graphy n es) (r : Nat) (hr : r ≤ 100) :
    sumTo (nth (rankRow es n r)) n ≤ (r + 1) * 1099511627776 ∧ sumTo (nth (rankAcc es n r)) n = partSum (rankRow es n r) (tri es n) ∧ (∀ i, 0 ≤ nth (rankAcc es n r) i) ∧ partSum (rankRow es n r) (tri es n) ≤ sumTo (gives es (rankRow es n r)) n ∧ sumTo (gives es (rankRow es n r)) n ≤ sumTo (nth (rankRow es n r)) n := by
  have hT : ∀ e ∈ tri es n, e.2.1 < n := fun e he => G.lt2 _ (mem_tri.1 he).2.1
  have step : ∀ r, r ≤ 100 → sumTo (nth (rankRow es n r)) n ≤ (r + 1) * 1099511627776 → sumTo (nth (rankAcc es n r)) n = partSum (rankRow es n r) (tri es n) ∧ (∀ i, 0 ≤ nth (rankAcc es n r) i) ∧ partSum (rankRow es n r) (tri es n) ≤ sumTo (gives es (rankRow es n r)) n ∧ sumTo (gives es (rankRow es n r)) n ≤ sumTo (nth (rankRow es n r)) n := by
    intro r hr h
    have hx : ∀ i, 0 ≤ nth (rankRow es n r) i := fun i => (rankRow_words es n r i).1
    have h1 := tri_between es hx n
    have h2 : sumTo (gives es (rankRow es n r)) n ≤ sumTo (nth (rankRow es n r)) n := sumTo_le fun i _ => by
      unfold gives; split
      · exact hx i
      · exact Int.le_refl _
    have h3 : sumTo (nth (tab (fun _ => (0 : Int)) n)) n = 0 := by rw [sumTo_tab, sumTo_const]; simp
    have := rankShard_sum hx (n := n) (tri es n) (tab (fun _ => 0) n) (tab_length _ _) (fun i => (Words.tab n (g := fun _ => 0) (fun _ => by omega) i).1) hT (by rw [h3]; omega)
    rw [h3] at this
    exact ⟨by rw [rankAcc, this.1]; omega, this.2, h1.1, h2⟩
  have main : sumTo (nth (rankRow es n r)) n ≤ (r + 1) * 1099511627776 := by
    have n60 := G.n60
    induction r with
    | zero =>
      show sumTo (nth (tab (fun _ => one) n)) n ≤ _
      rw [sumTo_tab, sumTo_const]
      unfold one; omega
    | succ r ih =>
      have ih := ih (by omega)
      obtain ⟨a1, a2, a3, a4⟩ := step r (by omega) ih
      rw [rankRow_succ, sumTo_tab]
      have : sumTo (fun i => ranked (nth (rankAcc es n r) i)) n ≤ sumTo (fun i => 644245094 + nth (rankAcc es n r) i) n := by
        refine sumTo_le fun i hi => ranked_le (a2 i) ?_
        have := sumTo_one (f := nth (rankAcc es n r)) hi (fun i _ => a2 i)
        omega
      rw [sumTo_add, sumTo_const] at this
      have : (n : Int) * 644245094 ≤ 1099511627776 := by omega
      omega
  exact ⟨main, step r hr main⟩
/-- What is handed on, and what was there: as the law asks. -/
theorem rank_share {es : List (Nat × Nat)} {n : Nat} (G : Graphy n es) (r : Nat) (hr : r ≤ 100) :
    wsum (nth (rankAcc es n r)) n ≤ wsum (gives es (rankRow es n r)) n ∧ wsum (gives es (rankRow es n r)) n ≤ wsum (nth (rankAcc es n r)) n + es.length ∧ word (wsum (gives es (rankRow es n r)) n - wsum (nth (rankAcc es n r)) n) ≤ es.length := by
  obtain ⟨h1, h2, h3, h4, h5⟩ := rank_bound G r hr
  have hx : ∀ i, 0 ≤ nth (rankRow es n r) i := fun i => (rankRow_words es n r i).1
  have h6 := tri_between es hx n
  have h7 : (tri es n).length = es.length := by rw [tri_eq G.rise G.lt1, List.length_map]
  have h8 := partSum_nonneg hx (tri es n)
  have e1 : wsum (nth (rankAcc es n r)) n = partSum (rankRow es n r) (tri es n) := by
    rw [wsum_eq (fun i _ => h3 i) (by omega), h2]
  have e2 : wsum (gives es (rankRow es n r)) n = sumTo (gives es (rankRow es n r)) n := by
    refine wsum_eq (fun i _ => ?_) (by omega)
    unfold gives; split
    · exact Int.le_refl _
    · exact hx i
  rw [e1, e2]
  have h9 := G.len
  refine ⟨h4, by omega, ?_⟩
  rw [word_id (by omega) (by omega)]; omega

/-! ### Twice -/
/-- What comes to a vertex. -/
def comes (xs : List Int) (v : Nat) : List (Nat × Nat × Nat) → Int
  | [] => 0
  | e :: es => (if e.2.1 = v then part xs e else 0) + comes xs v es
theorem rankShard_nth (xs : List Int) (v : Nat) (T : List (Nat × Nat × Nat)) : ∀ ys : List Int, v < ys.length → Words ys → nth (rankShard xs ys T) v = word (nth ys v + comes xs v T) := by
  induction T with
  | nil => intro ys hv hy; have := hy v; simp only [rankShard, List.foldl_nil, comes]; rw [Int.add_zero, word_id this.1 this.2]
  | cons e T ih =>
    intro ys hv hy
    show nth (rankShard xs (rankEdge xs ys e) T) v = _
    rw [ih _ (by rw [rankEdge_length]; exact hv) (rankEdge_words hy e)]
    show word (nth (ys.set e.2.1 (word (nth ys e.2.1 + part xs e))) v + _) = _
    rw [nth_set]
    simp only [comes]
    by_cases h : e.2.1 = v
    · subst h
      rw [if_pos ⟨rfl, hv⟩, if_pos rfl]
      unfold word; omega
    · rw [if_neg (fun q => h q.1), if_neg h, Int.zero_add]
theorem rank_twice {xs ys zs : List Int} {n : Nat} (T : List (Nat × Nat × Nat)) (hy : ys.length = n) (hz : zs.length = n) (wy : Words ys) (wz : Words zs) (z0 : ∀ i, nth zs i = 0) {v : Nat} (hv : v < n) :
    nth (rankShard xs (rankShard xs ys T) T) v = word (word (nth ys v + nth (rankShard xs zs T) v) + nth (rankShard xs zs T) v) := by
  rw [rankShard_nth _ _ _ _ (by rw [rankShard_length, hy]; exact hv) (rankShard_words wy T), rankShard_nth _ _ _ _ (by rw [hy]; exact hv) wy, rankShard_nth _ _ _ _ (by rw [hz]; exact hv) wz, z0]
  unfold word; omega

/-! ### What the walks of the laws share -/
theorem tab_zeros (n : Nat) : tab (fun _ => (0 : Int)) n = zeros n := list_ext_nth (by rw [tab_length, zeros_length]) (fun i hi => by rw [tab_length] at hi; rw [nth_tab _ _ _ hi, nth_eq (by rw [zeros_length]; exact hi)]; simp [zeros])
theorem ShardAt.kept {S L : List Nat} {w w' : World} {g i fr m bo : Nat} {es : List (Nat × Nat)} (h : ShardAt w L g i fr m bo es) (k : Kept S w w') (hg : g ∉ S) (hs : ∀ j, j ∈ S → j ∈ L) : ShardAt w' L g i fr m bo es :=
  ⟨k.cell_some h.c0 hg, k.cell_some h.c1 hg, k.cell_some h.c2 hg, h.out.kept k hs⟩
theorem ShardAt.lt {L : List Nat} {w : World} {g i fr m bo : Nat} {es : List (Nat × Nat)} (h : ShardAt w L g i fr m bo es) : g < w.heap.size := World.block_lt_of_cell? w _ h.c0
theorem IsShards.lt {w : World} {B g n s c : Nat} {es : List (Nat × Nat)} (h : IsShards w B (.slice (some ⟨g, 0, none⟩) s c) es (cuts n s)) (h1 : 1 ≤ s) (h2 : s ≤ n) : g < w.heap.size := by
  obtain ⟨g', _, _, _, e, _, _, hs⟩ := h.shard h1 h2 (i := 0) h1 (Kept.refl [] w) [] (by simp)
  simp only [Option.some.injEq, Addr.mk.injEq] at e
  rw [e.1]; exact hs.lt
end Go.Proofs.YtedljgohmlilgaaGreat
/-
  Rows that are lowered place by place, in plain words: what comes of them does not ask in which order, nor how often. No program in sight.
-/
namespace Go.Proofs.YtedljgohmlilgaaGreat
set_option linter.unusedVariables false

def lowers (ys : List Int) (ps : List (Nat × Int)) : List Int := ps.foldl (fun ys p => lower ys p.1 p.2) ys
theorem lowers_nil (ys : List Int) : lowers ys [] = ys := rfl
theorem lowers_cons (ys : List Int) (p : Nat × Int) (ps : List (Nat × Int)) : lowers ys (p :: ps) = lowers (lower ys p.1 p.2) ps := rfl
theorem lowers_append (ys : List Int) (ps qs : List (Nat × Int)) : lowers ys (ps ++ qs) = lowers (lowers ys ps) qs := by simp [lowers]
theorem lowers_length (ys : List Int) (ps : List (Nat × Int)) : (lowers ys ps).length = ys.length := by
  induction ps generalizing ys with
  | nil => rfl
  | cons p ps ih => rw [lowers_cons, ih, lower_length]
theorem lowers_spec (ps : List (Nat × Int)) (v : Nat) : ∀ ys : List Int, v < ys.length → nth (lowers ys ps) v ≤ nth ys v ∧ (∀ p ∈ ps, p.1 = v → nth (lowers ys ps) v ≤ p.2) ∧ (nth (lowers ys ps) v = nth ys v ∨ ∃ p ∈ ps, p.1 = v ∧ nth (lowers ys ps) v = p.2) := by
  induction ps with
  | nil => intro ys _; exact ⟨Int.le_refl _, fun p hp => by simp at hp, .inl rfl⟩
  | cons q ps ih =>
    intro ys hv
    have h := ih (lower ys q.1 q.2) (by rw [lower_length]; exact hv)
    rw [lowers_cons]
    have hn := nth_lower ys q.1 v q.2
    obtain ⟨h1, h2, h3⟩ := h
    by_cases hq : q.1 = v ∧ v < ys.length ∧ q.2 < nth ys v
    · rw [if_pos hq] at hn
      rw [hn] at h1 h3
      refine ⟨by omega, fun p hp e => ?_, ?_⟩
      · rcases List.mem_cons.1 hp with rfl | hp
        · exact h1
        · exact h2 p hp e
      · rcases h3 with h3 | ⟨p, hp, e, h3⟩
        · exact .inr ⟨q, by simp, hq.1, h3⟩
        · exact .inr ⟨p, by simp [hp], e, h3⟩
    · rw [if_neg hq] at hn
      rw [hn] at h1 h3
      refine ⟨h1, fun p hp e => ?_, ?_⟩
      · rcases List.mem_cons.1 hp with rfl | hp
        · have : ¬ p.2 < nth ys v := fun h => hq ⟨e, hv, h⟩
          omega
        · exact h2 p hp e
      · rcases h3 with h3 | ⟨p, hp, e, h3⟩
        · exact .inl h3
        · exact .inr ⟨p, by simp [hp], e, h3⟩
/-- The same pairs: the same rows. -/
theorem lowers_same {ys : List Int} {ps qs : List (Nat × Int)} (h : ∀ p, p ∈ ps ↔ p ∈ qs) : lowers ys ps = lowers ys qs := by
  refine list_ext_nth (by rw [lowers_length, lowers_length]) fun i hi => ?_
  rw [lowers_length] at hi
  obtain ⟨a1, a2, a3⟩ := lowers_spec ps i ys hi
  obtain ⟨b1, b2, b3⟩ := lowers_spec qs i ys hi
  have x : nth (lowers ys ps) i ≤ nth (lowers ys qs) i := by
    rcases b3 with b3 | ⟨p, hp, e, b3⟩
    · omega
    · have := a2 p ((h p).2 hp) e; omega
  have y : nth (lowers ys qs) i ≤ nth (lowers ys ps) i := by
    rcases a3 with a3 | ⟨p, hp, e, a3⟩
    · omega
    · have := b2 p ((h p).1 hp) e; omega
  omega

/-! ### Package bfs -/
def bfsPairs (round : Nat) (xs : List Int) (T : List (Nat × Nat × Nat)) : List (Nat × Int) := T.flatMap fun e => if nth xs e.1 = round then [(e.2.1, (round : Int) + 1)] else []
theorem bfsShard_lowers (round : Nat) (xs : List Int) (T : List (Nat × Nat × Nat)) : ∀ ys, bfsShard round xs ys T = lowers ys (bfsPairs round xs T) := by
  induction T with
  | nil => intro ys; rfl
  | cons e T ih =>
    intro ys
    show bfsShard round xs (bfsEdge round xs ys e) T = _
    have e1 : bfsPairs round xs (e :: T) = (if nth xs e.1 = round then [(e.2.1, (round : Int) + 1)] else []) ++ bfsPairs round xs T := by simp [bfsPairs]
    rw [ih, e1, lowers_append]
    unfold bfsEdge
    split <;> rfl
theorem mem_bfsPairs {round : Nat} {xs : List Int} {T : List (Nat × Nat × Nat)} {p : Nat × Int} : p ∈ bfsPairs round xs T ↔ ∃ e ∈ T, nth xs e.1 = round ∧ p = (e.2.1, (round : Int) + 1) := by
  unfold bfsPairs
  rw [List.mem_flatMap]
  constructor
  · rintro ⟨e, he, h⟩
    split at h
    · rename_i hx; exact ⟨e, he, hx, by simpa using h⟩
    · simp at h
  · rintro ⟨e, he, hx, rfl⟩
    exact ⟨e, he, by rw [if_pos hx]; simp⟩
/-- The same edges: the same rows. -/
theorem bfsShard_same {round : Nat} {xs ys : List Int} {T U : List (Nat × Nat × Nat)} (h : ∀ e, e ∈ T ↔ e ∈ U) : bfsShard round xs ys T = bfsShard round xs ys U := by
  rw [bfsShard_lowers, bfsShard_lowers]
  refine lowers_same fun p => ?_
  rw [mem_bfsPairs, mem_bfsPairs]
  exact ⟨fun ⟨e, he, hx⟩ => ⟨e, (h e).1 he, hx⟩, fun ⟨e, he, hx⟩ => ⟨e, (h e).2 he, hx⟩⟩
theorem bfsShard_append (round : Nat) (xs ys : List Int) (T U : List (Nat × Nat × Nat)) : bfsShard round xs ys (T ++ U) = bfsShard round xs (bfsShard round xs ys T) U := by simp [bfsShard]

/-! ### Package labels -/
def labelsPairs (xs : List Int) (T : List (Nat × Nat × Nat)) : List (Nat × Int) := T.flatMap fun e => [(e.2.1, nth xs e.1), (e.1, nth xs e.2.1)]
theorem labelsShard_lowers (xs : List Int) (T : List (Nat × Nat × Nat)) : ∀ ys, labelsShard xs ys T = lowers ys (labelsPairs xs T) := by
  induction T with
  | nil => intro ys; rfl
  | cons e T ih =>
    intro ys
    show labelsShard xs (labelsEdge xs ys e) T = _
    have e1 : labelsPairs xs (e :: T) = [(e.2.1, nth xs e.1), (e.1, nth xs e.2.1)] ++ labelsPairs xs T := by simp [labelsPairs]
    rw [ih, e1, lowers_append]
    rfl
theorem mem_labelsPairs {xs : List Int} {T : List (Nat × Nat × Nat)} {p : Nat × Int} : p ∈ labelsPairs xs T ↔ ∃ e ∈ T, p = (e.2.1, nth xs e.1) ∨ p = (e.1, nth xs e.2.1) := by
  unfold labelsPairs
  rw [List.mem_flatMap]
  simp
theorem labelsShard_same {xs ys : List Int} {T U : List (Nat × Nat × Nat)} (h : ∀ e, e ∈ T ↔ e ∈ U) : labelsShard xs ys T = labelsShard xs ys U := by
  rw [labelsShard_lowers, labelsShard_lowers]
  refine lowers_same fun p => ?_
  rw [mem_labelsPairs, mem_labelsPairs]
  exact ⟨fun ⟨e, he, hx⟩ => ⟨e, (h e).1 he, hx⟩, fun ⟨e, he, hx⟩ => ⟨e, (h e).2 he, hx⟩⟩
theorem labelsShard_append (xs ys : List Int) (T U : List (Nat × Nat × Nat)) : labelsShard xs ys (T ++ U) = labelsShard xs (labelsShard xs ys T) U := by simp [labelsShard]
/-- Edges turned round: the same rows. -/
theorem labelsShard_turned {xs ys : List Int} {T U : List (Nat × Nat × Nat)} (h : ∀ a b, (∃ d, (a, b, d) ∈ T) ↔ ∃ d, (b, a, d) ∈ U) : labelsShard xs ys T = labelsShard xs ys U := by
  rw [labelsShard_lowers, labelsShard_lowers]
  refine lowers_same fun p => ?_
  rw [mem_labelsPairs, mem_labelsPairs]
  constructor
  · rintro ⟨⟨a, b, d⟩, he, hx⟩
    obtain ⟨d', h'⟩ := (h a b).1 ⟨d, he⟩
    exact ⟨_, h', hx.symm⟩
  · rintro ⟨⟨a, b, d⟩, he, hx⟩
    obtain ⟨d', h'⟩ := (h b a).2 ⟨d, he⟩
    exact ⟨_, h', hx.symm⟩
theorem mem_tri_pair {es : List (Nat × Nat)} {n : Nat} (hn : ∀ e ∈ es, e.1 < n) (a b : Nat) : (∃ d, (a, b, d) ∈ tri es n) ↔ (a, b) ∈ es := by
  constructor
  · rintro ⟨d, h⟩; exact (mem_tri.1 h).2.1
  · intro h; exact ⟨(lead es a).length, mem_tri.2 ⟨hn _ h, h, rfl⟩⟩
theorem tri_turned {es fs : List (Nat × Nat)} {n : Nat} (h1 : ∀ e ∈ es, e.1 < n) (h2 : ∀ e ∈ fs, e.1 < n) (h : ∀ a b, (a, b) ∈ es ↔ (b, a) ∈ fs) (xs ys : List Int) : labelsShard xs ys (tri es n) = labelsShard xs ys (tri fs n) :=
  labelsShard_turned fun a b => by rw [mem_tri_pair h1, mem_tri_pair h2]; exact h a b
/-- Each label is one that was there, and none has risen. -/
theorem labels_down {xs : List Int} {T : List (Nat × Nat × Nat)} {n : Nat} (hn : xs.length = n) (hT : ∀ e ∈ T, e.1 < n ∧ e.2.1 < n) {v : Nat} (hv : v < n) : nth (labelsShard xs xs T) v ≤ nth xs v ∧ ∃ u, u < n ∧ nth (labelsShard xs xs T) v = nth xs u := by
  rw [labelsShard_lowers]
  obtain ⟨h1, h2, h3⟩ := lowers_spec (labelsPairs xs T) v xs (by omega)
  refine ⟨h1, ?_⟩
  rcases h3 with h3 | ⟨p, hp, e, h3⟩
  · exact ⟨v, hv, h3⟩
  · obtain ⟨q, hq, hp⟩ := mem_labelsPairs.1 hp
    have := hT q hq
    rcases hp with rfl | rfl
    · exact ⟨q.1, this.1, h3⟩
    · exact ⟨q.2.1, this.2, h3⟩
/-- Where nothing lies above what was, a round's end takes acc over, and tells whether it is as before. -/
theorem labels_taken {xs ys : List Int} {n : Nat} (hn : xs.length = n) (hm : ys.length = n) (h : ∀ i, i < n → nth ys i ≤ nth xs i) : tab (labelsCur xs ys) n = ys := by
  refine list_ext_nth (by rw [tab_length, hm]) fun i hi => ?_
  rw [tab_length] at hi
  rw [nth_tab _ _ _ hi]
  have := h i hi
  unfold labelsCur; split <;> omega
theorem labels_done {xs ys : List Int} {n : Nat} (hn : xs.length = n) (hm : ys.length = n) (h : ∀ i, i < n → nth ys i ≤ nth xs i) : labelsDone xs ys = decide (ys = xs) := by
  unfold labelsDone
  rw [Bool.eq_iff_iff, allTo_iff, decide_eq_true_iff]
  constructor
  · intro hd
    refine list_ext_nth (by omega) fun i hi => ?_
    have h1 := hd i (by omega)
    have h2 := h i (by omega)
    simp [labelsSame] at h1
    omega
  · rintro rfl i hi
    simp [labelsSame]
end Go.Proofs.YtedljgohmlilgaaGreat
/-
  Cores in plain words: who goes, by degrees. No program in sight.
-/
namespace Go.Proofs.YtedljgohmlilgaaGreat
set_option linter.unusedVariables false

def cntOne (xs : List Int) (v : Nat) (e : Nat × Nat × Nat) : Int := if nth xs e.1 = 0 then 0 else if nth xs e.2.1 = 0 then 0 else (if e.1 = v then 1 else 0) + (if e.2.1 = v then 1 else 0)
/-- How many neighbours that are there. -/
def cnt (xs : List Int) (v : Nat) : List (Nat × Nat × Nat) → Int
  | [] => 0
  | e :: es => cntOne xs v e + cnt xs v es
theorem cntOne_in (xs : List Int) (v : Nat) (e : Nat × Nat × Nat) : 0 ≤ cntOne xs v e ∧ cntOne xs v e ≤ 2 := by unfold cntOne; repeat (any_goals split) <;> omega
theorem cnt_in (xs : List Int) (v : Nat) (T : List (Nat × Nat × Nat)) : 0 ≤ cnt xs v T ∧ cnt xs v T ≤ 2 * (T.length : Int) := by
  induction T with
  | nil => simp [cnt]
  | cons e T ih => have := cntOne_in xs v e; simp only [cnt, List.length_cons]; omega
theorem cnt_append (xs : List Int) (v : Nat) (T U : List (Nat × Nat × Nat)) : cnt xs v (T ++ U) = cnt xs v T + cnt xs v U := by
  induction T with
  | nil => simp [cnt]
  | cons e T ih => simp only [List.cons_append, cnt, ih]; omega
theorem cnt_perm {xs : List Int} {v : Nat} {T U : List (Nat × Nat × Nat)} (h : T.Perm U) : cnt xs v T = cnt xs v U := by
  induction h with
  | nil => rfl
  | cons e _ ih => simp only [cnt, ih]
  | swap a b l => simp only [cnt]; omega
  | trans _ _ h1 h2 => rw [h1, h2]
theorem cnt_mono {xs ys : List Int} (h : ∀ i, nth xs i ≠ 0 → nth ys i ≠ 0) (v : Nat) (T : List (Nat × Nat × Nat)) : cnt xs v T ≤ cnt ys v T := by
  induction T with
  | nil => exact Int.le_refl _
  | cons e T ih =>
    have h1 := h e.1
    have h2 := h e.2.1
    have : cntOne xs v e ≤ cntOne ys v e := by
      have := (cntOne_in ys v e).1
      by_cases x1 : nth xs e.1 = 0
      · unfold cntOne at *; rw [if_pos x1]; exact this
      · by_cases x2 : nth xs e.2.1 = 0
        · unfold cntOne at *; rw [if_neg x1, if_pos x2]; exact this
        · unfold cntOne; rw [if_neg x1, if_neg x2, if_neg (h1 x1), if_neg (h2 x2)]; exact Int.le_refl _
    simp only [cnt]; omega
theorem nth_inc {ys : List Int} {i v : Nat} (hv : v < ys.length) : nth (inc ys i) v = if i = v then word (nth ys v + 1) else nth ys v := by
  unfold inc
  rw [nth_set]
  by_cases h : i = v
  · subst h; rw [if_pos ⟨rfl, hv⟩, if_pos rfl]
  · rw [if_neg (fun q => h q.1), if_neg h]
theorem inc_words {ys : List Int} (h : Words ys) (i : Nat) : Words (inc ys i) := h.set _ (word_in _)
theorem coresEdge_words {xs ys : List Int} (h : Words ys) (e : Nat × Nat × Nat) : Words (coresEdge xs ys e) := by
  unfold coresEdge; split
  · exact h
  · split
    · exact h
    · exact inc_words (inc_words h _) _
theorem coresShard_words {xs ys : List Int} (h : Words ys) (T : List (Nat × Nat × Nat)) : Words (coresShard xs ys T) := by
  unfold coresShard
  induction T generalizing ys with
  | nil => exact h
  | cons e T ih => rw [List.foldl_cons]; exact ih (coresEdge_words h e)
theorem coresShard_append (xs ys : List Int) (T U : List (Nat × Nat × Nat)) : coresShard xs ys (T ++ U) = coresShard xs (coresShard xs ys T) U := by simp [coresShard]
theorem coresEdge_nth {xs ys : List Int} {v : Nat} (hv : v < ys.length) (h : Words ys) (e : Nat × Nat × Nat) : nth (coresEdge xs ys e) v = word (nth ys v + cntOne xs v e) := by
  have hw := h v
  have h0 : nth ys v = word (nth ys v + 0) := by unfold word; omega
  unfold coresEdge cntOne
  split
  · exact h0
  · split
    · exact h0
    · rw [nth_inc (by simp [inc]; exact hv), nth_inc hv]
      by_cases a : e.1 = v <;> by_cases b : e.2.1 = v <;> simp only [a, b, if_true, if_false] <;> unfold word <;> omega
theorem coresShard_nth {xs : List Int} {v : Nat} (T : List (Nat × Nat × Nat)) : ∀ ys : List Int, v < ys.length → Words ys → nth (coresShard xs ys T) v = word (nth ys v + cnt xs v T) := by
  induction T with
  | nil => intro ys _ h; have := h v; simp only [coresShard, List.foldl_nil, cnt]; unfold word; omega
  | cons e T ih =>
    intro ys hv h
    show nth (coresShard xs (coresEdge xs ys e) T) v = _
    rw [ih _ (by rw [coresEdge_length]; exact hv) (coresEdge_words h e), coresEdge_nth hv h]
    simp only [cnt]
    unfold word; omega

/-- A round's row, and its counts. -/
def coreRow (es : List (Nat × Nat)) (n k : Nat) : Nat → List Int
  | 0 => tab (fun _ => 1) n
  | r + 1 => tab (coresCur k (coreRow es n k r) (coresShard (coreRow es n k r) (tab (fun _ => 0) n) (tri es n))) n
def coreAcc (es : List (Nat × Nat)) (n k r : Nat) : List Int := coresShard (coreRow es n k r) (tab (fun _ => 0) n) (tri es n)
theorem coreRow_succ (es : List (Nat × Nat)) (n k r : Nat) : coreRow es n k (r + 1) = tab (coresCur k (coreRow es n k r) (coreAcc es n k r)) n := rfl
theorem coreRow_length (es : List (Nat × Nat)) (n k r : Nat) : (coreRow es n k r).length = n := by cases r <;> simp [coreRow, tab_length]
theorem coreAcc_length (es : List (Nat × Nat)) (n k r : Nat) : (coreAcc es n k r).length = n := by simp [coreAcc, coresShard_length, tab_length]
theorem coreAcc_nth {es : List (Nat × Nat)} {n : Nat} (G : Graphy n es) (k r : Nat) {v : Nat} (hv : v < n) : nth (coreAcc es n k r) v = cnt (coreRow es n k r) v (tri es n) := by
  have h7 : (tri es n).length = es.length := by rw [tri_eq G.rise G.lt1, List.length_map]
  have := cnt_in (coreRow es n k r) v (tri es n)
  have := G.len
  rw [coreAcc, coresShard_nth _ _ (by rw [tab_length]; exact hv) (Words.tab n (fun _ => by omega)), nth_tab _ _ _ hv]
  unfold word; omega
theorem coreRow_bit (es : List (Nat × Nat)) (n k r : Nat) (v : Nat) (hv : v < n) : nth (coreRow es n k r) v = 0 ∨ nth (coreRow es n k r) v = 1 := by
  induction r with
  | zero => right; show nth (tab _ n) v = 1; rw [nth_tab _ _ _ hv]
  | succ r ih =>
    rw [coreRow_succ, nth_tab _ _ _ hv]
    unfold coresCur
    split
    · exact .inl rfl
    · exact ih
theorem coreRow_down (es : List (Nat × Nat)) (n k r : Nat) (v : Nat) (hv : v < n) : nth (coreRow es n k (r + 1)) v ≤ nth (coreRow es n k r) v := by
  rw [coreRow_succ, nth_tab _ _ _ hv]
  have := coreRow_bit es n k r v hv
  unfold coresCur
  split <;> omega
theorem nth_past {xs : List Int} {i : Nat} (h : xs.length ≤ i) : nth xs i = 0 := by simp [nth, h]
theorem coreRow_less {es : List (Nat × Nat)} {n : Nat} (G : Graphy n es) {low high : Nat} (h : low ≤ high) (r : Nat) : ∀ v, v < n → nth (coreRow es n high r) v ≤ nth (coreRow es n low r) v := by
  induction r with
  | zero => intro v hv; exact Int.le_refl _
  | succ r ih =>
    intro v hv
    have hm : ∀ i, nth (coreRow es n high r) i ≠ 0 → nth (coreRow es n low r) i ≠ 0 := by
      intro i hi
      by_cases hn : i < n
      · have := ih i hn
        have := coreRow_bit es n high r i hn
        have := coreRow_bit es n low r i hn
        omega
      · rw [nth_past (by rw [coreRow_length]; omega)] at hi; exact absurd rfl hi
    have hc := cnt_mono hm v (tri es n)
    rw [← coreAcc_nth G high r hv, ← coreAcc_nth G low r hv] at hc
    have i0 := ih v hv
    have b1 := coreRow_bit es n high r v hv
    have b2 := coreRow_bit es n low r v hv
    rw [coreRow_succ, coreRow_succ, nth_tab _ _ _ hv, nth_tab _ _ _ hv]
    unfold coresCur coresGoes
    generalize nth (coreRow es n high r) v = x at *
    generalize nth (coreRow es n low r) v = y at *
    generalize nth (coreAcc es n high r) v = p at *
    generalize nth (coreAcc es n low r) v = q at *
    simp only [Bool.and_eq_true, Bool.not_eq_true', decide_eq_true_eq, decide_eq_false_iff_not]
    split <;> split <;> omega
end Go.Proofs.YtedljgohmlilgaaGreat
/-
  An order by numbers, in plain words: each place once. No program in sight.
-/
namespace Go.Proofs.YtedljgohmlilgaaGreat
set_option linter.unusedVariables false

/-- Which of those that are left is taken. -/
def pick (bs : List Nat) (i len : Nat) : Nat := if i < bs.length then nat bs i % len else 0
theorem pick_lt (bs : List Nat) (i : Nat) {len : Nat} (h : 0 < len) : pick bs i len < len := by
  unfold pick; split
  · exact Nat.mod_lt _ h
  · exact h
def without (l : List Nat) (k : Nat) : List Nat := l.take k ++ l.drop (k + 1)
theorem without_perm {l : List Nat} {k : Nat} (h : k < l.length) : (nat l k :: without l k).Perm l := by
  unfold without
  rw [nat_eq h]
  refine List.Perm.trans (List.perm_middle (a := l[k]) (l₁ := l.take k) (l₂ := l.drop (k + 1))).symm ?_
  rw [← List.drop_eq_getElem_cons h, List.take_append_drop]
theorem without_length {l : List Nat} {k : Nat} (h : k < l.length) : (without l k).length + 1 = l.length := by
  have := (without_perm h).length_eq
  simpa using this
/-- What is left, what was taken, behind so many. -/
def leftAt (bs : List Nat) (m : Nat) : Nat → List Nat
  | 0 => List.range m
  | i + 1 => without (leftAt bs m i) (pick bs i (leftAt bs m i).length)
def tookAt (bs : List Nat) (m : Nat) : Nat → List Nat
  | 0 => []
  | i + 1 => tookAt bs m i ++ [nat (leftAt bs m i) (pick bs i (leftAt bs m i).length)]
def order (bs : List Nat) (m : Nat) : List Nat := tookAt bs m m
theorem leftAt_length (bs : List Nat) (m : Nat) : ∀ i, i ≤ m → (leftAt bs m i).length = m - i := by
  intro i
  induction i with
  | zero => intro _; simp [leftAt]
  | succ i ih =>
    intro hi
    have h1 := ih (by omega)
    have := without_length (pick_lt bs i (len := (leftAt bs m i).length) (by omega))
    show (without _ _).length = _
    omega
theorem tookAt_length (bs : List Nat) (m i : Nat) : (tookAt bs m i).length = i := by
  induction i with
  | zero => rfl
  | succ i ih => simp [tookAt, ih]
theorem took_perm (bs : List Nat) (m : Nat) : ∀ i, i ≤ m → (tookAt bs m i ++ leftAt bs m i).Perm (List.range m) := by
  intro i
  induction i with
  | zero => intro _; simp [tookAt, leftAt]
  | succ i ih =>
    intro hi
    have h1 := leftAt_length bs m i (by omega)
    refine List.Perm.trans ?_ (ih (by omega))
    show (tookAt bs m i ++ [_] ++ without _ _).Perm _
    rw [List.append_assoc, List.singleton_append]
    exact List.Perm.append_left _ (without_perm (pick_lt bs i (by omega)))
theorem order_perm (bs : List Nat) (m : Nat) : (order bs m).Perm (List.range m) := by
  have := took_perm bs m m (Nat.le_refl _)
  have h : leftAt bs m m = [] := List.length_eq_zero_iff.1 (by rw [leftAt_length bs m m (Nat.le_refl _)]; omega)
  rw [h, List.append_nil] at this
  exact this
theorem order_length (bs : List Nat) (m : Nat) : (order bs m).length = m := tookAt_length bs m m
theorem order_lt {bs : List Nat} {m i : Nat} (h : i < m) : nat (order bs m) i < m := by
  have h1 : i < (order bs m).length := by rw [order_length]; exact h
  have := (order_perm bs m).mem_iff (a := (order bs m)[i])
  rw [nat_eq h1]
  have := this.1 (List.getElem_mem h1)
  simpa using this

/-- The edges of the shards at such places, one behind the other. -/
def tour (es : List (Nat × Nat)) (n s : Nat) (os : List Nat) : List (Nat × Nat × Nat) := os.flatMap fun i => shardEdges es (cutAt n s i)
theorem tour_nil (es : List (Nat × Nat)) (n s : Nat) : tour es n s [] = [] := rfl
theorem tour_append (es : List (Nat × Nat)) (n s : Nat) (a b : List Nat) : tour es n s (a ++ b) = tour es n s a ++ tour es n s b := by simp [tour]
theorem tour_one (es : List (Nat × Nat)) (n s i : Nat) : tour es n s [i] = shardEdges es (cutAt n s i) := by simp [tour]
theorem take_nat {os : List Nat} {k : Nat} (h : k < os.length) : os.take (k + 1) = os.take k ++ [nat os k] := by
  rw [List.take_succ_eq_append_getElem h, nat_eq h]
theorem tour_next {es : List (Nat × Nat)} {n s : Nat} {os : List Nat} {k : Nat} (h : k < os.length) : tour es n s (os.take (k + 1)) = tour es n s (os.take k) ++ shardEdges es (cutAt n s (nat os k)) := by
  rw [take_nat h, tour_append, tour_one]
theorem tour_range {es : List (Nat × Nat)} {n s : Nat} (h : 1 ≤ s) : tour es n s (List.range s) = tri es n := by
  rw [← shards_all es h]
  unfold tour cuts
  rw [List.flatMap_map]
theorem perm_flatMap {α β : Type} {l m : List α} (f : α → List β) (h : l.Perm m) : (l.flatMap f).Perm (m.flatMap f) := by
  induction h with
  | nil => exact List.Perm.refl _
  | cons a _ ih => simp only [List.flatMap_cons]; exact ih.append_left _
  | swap a b l =>
    simp only [List.flatMap_cons]
    rw [← List.append_assoc, ← List.append_assoc]
    exact List.Perm.append_right _ List.perm_append_comm
  | trans _ _ h1 h2 => exact h1.trans h2
/-- In whatever order: the same edges. -/
theorem tour_perm {es : List (Nat × Nat)} {n s : Nat} (h : 1 ≤ s) {os : List Nat} (ho : os.Perm (List.range s)) : (tour es n s os).Perm (tri es n) := by
  rw [← tour_range h]
  exact perm_flatMap _ ho
theorem tour_within {es : List (Nat × Nat)} {n s : Nat} (h : 1 ≤ s) {os : List Nat} (ho : ∀ i ∈ os, i < s) {e : Nat × Nat × Nat} (he : e ∈ tour es n s os) : e ∈ tri es n := by
  rw [← tour_range h]
  obtain ⟨i, hi, he⟩ := List.mem_flatMap.1 he
  exact List.mem_flatMap.2 ⟨i, List.mem_range.2 (ho i hi), he⟩
/-- Some more of them add no edge. -/
theorem tour_more {es : List (Nat × Nat)} {n s : Nat} (h : 1 ≤ s) {os ms : List Nat} (ho : os.Perm (List.range s)) (hm : ∀ i ∈ ms, i < s) (e : Nat × Nat × Nat) : e ∈ tour es n s (os ++ ms) ↔ e ∈ tri es n := by
  rw [tour_append, List.mem_append, (tour_perm h ho).mem_iff]
  exact ⟨fun q => q.elim id (tour_within h hm), .inl⟩

theorem comes_perm {xs : List Int} {v : Nat} {T U : List (Nat × Nat × Nat)} (h : T.Perm U) : comes xs v T = comes xs v U := by
  induction h with
  | nil => rfl
  | cons e _ ih => simp only [comes, ih]
  | swap a b l => simp only [comes]; omega
  | trans _ _ h1 h2 => rw [h1, h2]
theorem rankShard_perm {xs ys : List Int} (hy : Words ys) {T U : List (Nat × Nat × Nat)} (h : T.Perm U) : rankShard xs ys T = rankShard xs ys U := by
  refine list_ext_nth (by rw [rankShard_length, rankShard_length]) fun i hi => ?_
  rw [rankShard_length] at hi
  rw [rankShard_nth _ _ _ _ hi hy, rankShard_nth _ _ _ _ hi hy, comes_perm h]
theorem coresShard_perm {xs ys : List Int} (hy : Words ys) {T U : List (Nat × Nat × Nat)} (h : T.Perm U) : coresShard xs ys T = coresShard xs ys U := by
  refine list_ext_nth (by rw [coresShard_length, coresShard_length]) fun i hi => ?_
  rw [coresShard_length] at hi
  rw [coresShard_nth _ _ hi hy, coresShard_nth _ _ hi hy, cnt_perm h]
end Go.Proofs.YtedljgohmlilgaaGreat
