/-
  Rows that are lowered place by place, in plain words: what comes of them does not ask in which order, nor how often. No program in sight.
-/
import Derived.Test.YtedljgohmlilgaaGr
namespace Go.Proofs.Ytedljgohmlilgaa
set_option linter.unusedVariables false

def lowers (ys : List Int) (ps : List (Nat × Int)) : List Int := ps.foldl (fun ys p => lower ys p.1 p.2) ys
theorem lowers_nil (ys : List Int) : lowers ys [] = ys := rfl
theorem lowers_cons (ys : List Int) (p : Nat × Int) (ps : List (Nat × Int)) : lowers ys (p :: ps) = lowers (lower ys p.1 p.2) ps := rfl
theorem lowers_append (ys : List Int) (ps qs : List (Nat × Int)) : lowers ys (ps ++ qs) = lowers (lowers ys ps) qs := by simp [lowers]
theorem lowers_length (ys : List Int) (ps : List (Nat × Int)) : (lowers ys ps).length = ys.length := by
  induction ps generalizing ys with
  | nil => rfl
  | cons p ps ih => rw [lowers_cons, ih, lower_length]
theorem lowers_spec (ps : List (Nat × Int)) (v : Nat) : ∀ ys : List Int, v < ys.length → nth (lowers ys ps) v ≤ nth ys v ∧ (∀ p ∈ ps, p.1 = v → nth (lowers ys ps) v ≤ p.2) ∧ (nth (lowers ys ps) v = nth ys v ∨ ∃ p ∈ ps, p.1 = v ∧ nth (lowers ys ps) v = p.2) := by
  induction ps with
  | nil => intro ys _; exact ⟨Int.le_refl _, fun p hp => by simp at hp, .inl rfl⟩
  | cons q ps ih =>
    intro ys hv
    have h := ih (lower ys q.1 q.2) (by rw [lower_length]; exact hv)
    rw [lowers_cons]
    have hn := nth_lower ys q.1 v q.2
    obtain ⟨h1, h2, h3⟩ := h
    by_cases hq : q.1 = v ∧ v < ys.length ∧ q.2 < nth ys v
    · rw [if_pos hq] at hn
      rw [hn] at h1 h3
      refine ⟨by omega, fun p hp e => ?_, ?_⟩
      · rcases List.mem_cons.1 hp with rfl | hp
        · exact h1
        · exact h2 p hp e
      · rcases h3 with h3 | ⟨p, hp, e, h3⟩
        · exact .inr ⟨q, by simp, hq.1, h3⟩
        · exact .inr ⟨p, by simp [hp], e, h3⟩
    · rw [if_neg hq] at hn
      rw [hn] at h1 h3
      refine ⟨h1, fun p hp e => ?_, ?_⟩
      · rcases List.mem_cons.1 hp with rfl | hp
        · have : ¬ p.2 < nth ys v := fun h => hq ⟨e, hv, h⟩
          omega
        · exact h2 p hp e
      · rcases h3 with h3 | ⟨p, hp, e, h3⟩
        · exact .inl h3
        · exact .inr ⟨p, by simp [hp], e, h3⟩
/-- The same pairs: the same rows. -/
theorem lowers_same {ys : List Int} {ps qs : List (Nat × Int)} (h : ∀ p, p ∈ ps ↔ p ∈ qs) : lowers ys ps = lowers ys qs := by
  refine list_ext_nth (by rw [lowers_length, lowers_length]) fun i hi => ?_
  rw [lowers_length] at hi
  obtain ⟨a1, a2, a3⟩ := lowers_spec ps i ys hi
  obtain ⟨b1, b2, b3⟩ := lowers_spec qs i ys hi
  have x : nth (lowers ys ps) i ≤ nth (lowers ys qs) i := by
    rcases b3 with b3 | ⟨p, hp, e, b3⟩
    · omega
    · have := a2 p ((h p).2 hp) e; omega
  have y : nth (lowers ys qs) i ≤ nth (lowers ys ps) i := by
    rcases a3 with a3 | ⟨p, hp, e, a3⟩
    · omega
    · have := b2 p ((h p).1 hp) e; omega
  omega

/-! ### Package bfs -/
def bfsPairs (round : Nat) (xs : List Int) (T : List (Nat × Nat × Nat)) : List (Nat × Int) := T.flatMap fun e => if nth xs e.1 = round then [(e.2.1, (round : Int) + 1)] else []
theorem bfsShard_lowers (round : Nat) (xs : List Int) (T : List (Nat × Nat × Nat)) : ∀ ys, bfsShard round xs ys T = lowers ys (bfsPairs round xs T) := by
  induction T with
  | nil => intro ys; rfl
  | cons e T ih =>
    intro ys
    show bfsShard round xs (bfsEdge round xs ys e) T = _
    have e1 : bfsPairs round xs (e :: T) = (if nth xs e.1 = round then [(e.2.1, (round : Int) + 1)] else []) ++ bfsPairs round xs T := by simp [bfsPairs]
    rw [ih, e1, lowers_append]
    unfold bfsEdge
    split <;> rfl
theorem mem_bfsPairs {round : Nat} {xs : List Int} {T : List (Nat × Nat × Nat)} {p : Nat × Int} : p ∈ bfsPairs round xs T ↔ ∃ e ∈ T, nth xs e.1 = round ∧ p = (e.2.1, (round : Int) + 1) := by
  unfold bfsPairs
  rw [List.mem_flatMap]
  constructor
  · rintro ⟨e, he, h⟩
    split at h
    · rename_i hx; exact ⟨e, he, hx, by simpa using h⟩
    · simp at h
  · rintro ⟨e, he, hx, rfl⟩
    exact ⟨e, he, by rw [if_pos hx]; simp⟩
/-- The same edges: the same rows. -/
theorem bfsShard_same {round : Nat} {xs ys : List Int} {T U : List (Nat × Nat × Nat)} (h : ∀ e, e ∈ T ↔ e ∈ U) : bfsShard round xs ys T = bfsShard round xs ys U := by
  rw [bfsShard_lowers, bfsShard_lowers]
  refine lowers_same fun p => ?_
  rw [mem_bfsPairs, mem_bfsPairs]
  exact ⟨fun ⟨e, he, hx⟩ => ⟨e, (h e).1 he, hx⟩, fun ⟨e, he, hx⟩ => ⟨e, (h e).2 he, hx⟩⟩
theorem bfsShard_append (round : Nat) (xs ys : List Int) (T U : List (Nat × Nat × Nat)) : bfsShard round xs ys (T ++ U) = bfsShard round xs (bfsShard round xs ys T) U := by simp [bfsShard]

/-! ### Package labels -/
def labelsPairs (xs : List Int) (T : List (Nat × Nat × Nat)) : List (Nat × Int) := T.flatMap fun e => [(e.2.1, nth xs e.1), (e.1, nth xs e.2.1)]
theorem labelsShard_lowers (xs : List Int) (T : List (Nat × Nat × Nat)) : ∀ ys, labelsShard xs ys T = lowers ys (labelsPairs xs T) := by
  induction T with
  | nil => intro ys; rfl
  | cons e T ih =>
    intro ys
    show labelsShard xs (labelsEdge xs ys e) T = _
    have e1 : labelsPairs xs (e :: T) = [(e.2.1, nth xs e.1), (e.1, nth xs e.2.1)] ++ labelsPairs xs T := by simp [labelsPairs]
    rw [ih, e1, lowers_append]
    rfl
theorem mem_labelsPairs {xs : List Int} {T : List (Nat × Nat × Nat)} {p : Nat × Int} : p ∈ labelsPairs xs T ↔ ∃ e ∈ T, p = (e.2.1, nth xs e.1) ∨ p = (e.1, nth xs e.2.1) := by
  unfold labelsPairs
  rw [List.mem_flatMap]
  simp
theorem labelsShard_same {xs ys : List Int} {T U : List (Nat × Nat × Nat)} (h : ∀ e, e ∈ T ↔ e ∈ U) : labelsShard xs ys T = labelsShard xs ys U := by
  rw [labelsShard_lowers, labelsShard_lowers]
  refine lowers_same fun p => ?_
  rw [mem_labelsPairs, mem_labelsPairs]
  exact ⟨fun ⟨e, he, hx⟩ => ⟨e, (h e).1 he, hx⟩, fun ⟨e, he, hx⟩ => ⟨e, (h e).2 he, hx⟩⟩
theorem labelsShard_append (xs ys : List Int) (T U : List (Nat × Nat × Nat)) : labelsShard xs ys (T ++ U) = labelsShard xs (labelsShard xs ys T) U := by simp [labelsShard]
/-- Edges turned round: the same rows. -/
theorem labelsShard_turned {xs ys : List Int} {T U : List (Nat × Nat × Nat)} (h : ∀ a b, (∃ d, (a, b, d) ∈ T) ↔ ∃ d, (b, a, d) ∈ U) : labelsShard xs ys T = labelsShard xs ys U := by
  rw [labelsShard_lowers, labelsShard_lowers]
  refine lowers_same fun p => ?_
  rw [mem_labelsPairs, mem_labelsPairs]
  constructor
  · rintro ⟨⟨a, b, d⟩, he, hx⟩
    obtain ⟨d', h'⟩ := (h a b).1 ⟨d, he⟩
    exact ⟨_, h', hx.symm⟩
  · rintro ⟨⟨a, b, d⟩, he, hx⟩
    obtain ⟨d', h'⟩ := (h b a).2 ⟨d, he⟩
    exact ⟨_, h', hx.symm⟩
theorem mem_tri_pair {es : List (Nat × Nat)} {n : Nat} (hn : ∀ e ∈ es, e.1 < n) (a b : Nat) : (∃ d, (a, b, d) ∈ tri es n) ↔ (a, b) ∈ es := by
  constructor
  · rintro ⟨d, h⟩; exact (mem_tri.1 h).2.1
  · intro h; exact ⟨(lead es a).length, mem_tri.2 ⟨hn _ h, h, rfl⟩⟩
theorem tri_turned {es fs : List (Nat × Nat)} {n : Nat} (h1 : ∀ e ∈ es, e.1 < n) (h2 : ∀ e ∈ fs, e.1 < n) (h : ∀ a b, (a, b) ∈ es ↔ (b, a) ∈ fs) (xs ys : List Int) : labelsShard xs ys (tri es n) = labelsShard xs ys (tri fs n) :=
  labelsShard_turned fun a b => by rw [mem_tri_pair h1, mem_tri_pair h2]; exact h a b
/-- Each label is one that was there, and none has risen. -/
theorem labels_down {xs : List Int} {T : List (Nat × Nat × Nat)} {n : Nat} (hn : xs.length = n) (hT : ∀ e ∈ T, e.1 < n ∧ e.2.1 < n) {v : Nat} (hv : v < n) : nth (labelsShard xs xs T) v ≤ nth xs v ∧ ∃ u, u < n ∧ nth (labelsShard xs xs T) v = nth xs u := by
  rw [labelsShard_lowers]
  obtain ⟨h1, h2, h3⟩ := lowers_spec (labelsPairs xs T) v xs (by omega)
  refine ⟨h1, ?_⟩
  rcases h3 with h3 | ⟨p, hp, e, h3⟩
  · exact ⟨v, hv, h3⟩
  · obtain ⟨q, hq, hp⟩ := mem_labelsPairs.1 hp
    have := hT q hq
    rcases hp with rfl | rfl
    · exact ⟨q.1, this.1, h3⟩
    · exact ⟨q.2.1, this.2, h3⟩
/-- Where nothing lies above what was, a round's end takes acc over, and tells whether it is as before. -/
theorem labels_taken {xs ys : List Int} {n : Nat} (hn : xs.length = n) (hm : ys.length = n) (h : ∀ i, i < n → nth ys i ≤ nth xs i) : tab (labelsCur xs ys) n = ys := by
  refine list_ext_nth (by rw [tab_length, hm]) fun i hi => ?_
  rw [tab_length] at hi
  rw [nth_tab _ _ _ hi]
  have := h i hi
  unfold labelsCur; split <;> omega
theorem labels_done {xs ys : List Int} {n : Nat} (hn : xs.length = n) (hm : ys.length = n) (h : ∀ i, i < n → nth ys i ≤ nth xs i) : labelsDone xs ys = decide (ys = xs) := by
  unfold labelsDone
  rw [Bool.eq_iff_iff, allTo_iff, decide_eq_true_iff]
  constructor
  · intro hd
    refine list_ext_nth (by omega) fun i hi => ?_
    have h1 := hd i (by omega)
    have h2 := h i (by omega)
    simp [labelsSame] at h1
    omega
  · rintro rfl i hi
    simp [labelsSame]
end Go.Proofs.Ytedljgohmlilgaa
