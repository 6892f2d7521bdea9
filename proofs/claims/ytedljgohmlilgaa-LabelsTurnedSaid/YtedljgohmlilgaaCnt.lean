/-
  Cores in plain words: who goes, by degrees. No program in sight.
-/
import Derived.Test.YtedljgohmlilgaaGr
namespace Go.Proofs.Ytedljgohmlilgaa
set_option linter.unusedVariables false

def cntOne (xs : List Int) (v : Nat) (e : Nat × Nat × Nat) : Int := if nth xs e.1 = 0 then 0 else if nth xs e.2.1 = 0 then 0 else (if e.1 = v then 1 else 0) + (if e.2.1 = v then 1 else 0)
/-- How many neighbours that are there. -/
def cnt (xs : List Int) (v : Nat) : List (Nat × Nat × Nat) → Int
  | [] => 0
  | e :: es => cntOne xs v e + cnt xs v es
theorem cntOne_in (xs : List Int) (v : Nat) (e : Nat × Nat × Nat) : 0 ≤ cntOne xs v e ∧ cntOne xs v e ≤ 2 := by unfold cntOne; repeat (any_goals split) <;> omega
theorem cnt_in (xs : List Int) (v : Nat) (T : List (Nat × Nat × Nat)) : 0 ≤ cnt xs v T ∧ cnt xs v T ≤ 2 * (T.length : Int) := by
  induction T with
  | nil => simp [cnt]
  | cons e T ih => have := cntOne_in xs v e; simp only [cnt, List.length_cons]; omega
theorem cnt_append (xs : List Int) (v : Nat) (T U : List (Nat × Nat × Nat)) : cnt xs v (T ++ U) = cnt xs v T + cnt xs v U := by
  induction T with
  | nil => simp [cnt]
  | cons e T ih => simp only [List.cons_append, cnt, ih]; omega
theorem cnt_perm {xs : List Int} {v : Nat} {T U : List (Nat × Nat × Nat)} (h : T.Perm U) : cnt xs v T = cnt xs v U := by
  induction h with
  | nil => rfl
  | cons e _ ih => simp only [cnt, ih]
  | swap a b l => simp only [cnt]; omega
  | trans _ _ h1 h2 => rw [h1, h2]
theorem cnt_mono {xs ys : List Int} (h : ∀ i, nth xs i ≠ 0 → nth ys i ≠ 0) (v : Nat) (T : List (Nat × Nat × Nat)) : cnt xs v T ≤ cnt ys v T := by
  induction T with
  | nil => exact Int.le_refl _
  | cons e T ih =>
    have h1 := h e.1
    have h2 := h e.2.1
    have : cntOne xs v e ≤ cntOne ys v e := by
      have := (cntOne_in ys v e).1
      by_cases x1 : nth xs e.1 = 0
      · unfold cntOne at *; rw [if_pos x1]; exact this
      · by_cases x2 : nth xs e.2.1 = 0
        · unfold cntOne at *; rw [if_neg x1, if_pos x2]; exact this
        · unfold cntOne; rw [if_neg x1, if_neg x2, if_neg (h1 x1), if_neg (h2 x2)]; exact Int.le_refl _
    simp only [cnt]; omega
theorem nth_inc {ys : List Int} {i v : Nat} (hv : v < ys.length) : nth (inc ys i) v = if i = v then word (nth ys v + 1) else nth ys v := by
  unfold inc
  rw [nth_set]
  by_cases h : i = v
  · subst h; rw [if_pos ⟨rfl, hv⟩, if_pos rfl]
  · rw [if_neg (fun q => h q.1), if_neg h]
theorem inc_words {ys : List Int} (h : Words ys) (i : Nat) : Words (inc ys i) := h.set _ (word_in _)
theorem coresEdge_words {xs ys : List Int} (h : Words ys) (e : Nat × Nat × Nat) : Words (coresEdge xs ys e) := by
  unfold coresEdge; split
  · exact h
  · split
    · exact h
    · exact inc_words (inc_words h _) _
theorem coresShard_words {xs ys : List Int} (h : Words ys) (T : List (Nat × Nat × Nat)) : Words (coresShard xs ys T) := by
  unfold coresShard
  induction T generalizing ys with
  | nil => exact h
  | cons e T ih => rw [List.foldl_cons]; exact ih (coresEdge_words h e)
theorem coresShard_append (xs ys : List Int) (T U : List (Nat × Nat × Nat)) : coresShard xs ys (T ++ U) = coresShard xs (coresShard xs ys T) U := by simp [coresShard]
theorem coresEdge_nth {xs ys : List Int} {v : Nat} (hv : v < ys.length) (h : Words ys) (e : Nat × Nat × Nat) : nth (coresEdge xs ys e) v = word (nth ys v + cntOne xs v e) := by
  have hw := h v
  have h0 : nth ys v = word (nth ys v + 0) := by unfold word; omega
  unfold coresEdge cntOne
  split
  · exact h0
  · split
    · exact h0
    · rw [nth_inc (by simp [inc]; exact hv), nth_inc hv]
      by_cases a : e.1 = v <;> by_cases b : e.2.1 = v <;> simp only [a, b, if_true, if_false] <;> unfold word <;> omega
theorem coresShard_nth {xs : List Int} {v : Nat} (T : List (Nat × Nat × Nat)) : ∀ ys : List Int, v < ys.length → Words ys → nth (coresShard xs ys T) v = word (nth ys v + cnt xs v T) := by
  induction T with
  | nil => intro ys _ h; have := h v; simp only [coresShard, List.foldl_nil, cnt]; unfold word; omega
  | cons e T ih =>
    intro ys hv h
    show nth (coresShard xs (coresEdge xs ys e) T) v = _
    rw [ih _ (by rw [coresEdge_length]; exact hv) (coresEdge_words h e), coresEdge_nth hv h]
    simp only [cnt]
    unfold word; omega

/-- A round's row, and its counts. -/
def coreRow (es : List (Nat × Nat)) (n k : Nat) : Nat → List Int
  | 0 => tab (fun _ => 1) n
  | r + 1 => tab (coresCur k (coreRow es n k r) (coresShard (coreRow es n k r) (tab (fun _ => 0) n) (tri es n))) n
def coreAcc (es : List (Nat × Nat)) (n k r : Nat) : List Int := coresShard (coreRow es n k r) (tab (fun _ => 0) n) (tri es n)
theorem coreRow_succ (es : List (Nat × Nat)) (n k r : Nat) : coreRow es n k (r + 1) = tab (coresCur k (coreRow es n k r) (coreAcc es n k r)) n := rfl
theorem coreRow_length (es : List (Nat × Nat)) (n k r : Nat) : (coreRow es n k r).length = n := by cases r <;> simp [coreRow, tab_length]
theorem coreAcc_length (es : List (Nat × Nat)) (n k r : Nat) : (coreAcc es n k r).length = n := by simp [coreAcc, coresShard_length, tab_length]
theorem coreAcc_nth {es : List (Nat × Nat)} {n : Nat} (G : Graphy n es) (k r : Nat) {v : Nat} (hv : v < n) : nth (coreAcc es n k r) v = cnt (coreRow es n k r) v (tri es n) := by
  have h7 : (tri es n).length = es.length := by rw [tri_eq G.rise G.lt1, List.length_map]
  have := cnt_in (coreRow es n k r) v (tri es n)
  have := G.len
  rw [coreAcc, coresShard_nth _ _ (by rw [tab_length]; exact hv) (Words.tab n (fun _ => by omega)), nth_tab _ _ _ hv]
  unfold word; omega
theorem coreRow_bit (es : List (Nat × Nat)) (n k r : Nat) (v : Nat) (hv : v < n) : nth (coreRow es n k r) v = 0 ∨ nth (coreRow es n k r) v = 1 := by
  induction r with
  | zero => right; show nth (tab _ n) v = 1; rw [nth_tab _ _ _ hv]
  | succ r ih =>
    rw [coreRow_succ, nth_tab _ _ _ hv]
    unfold coresCur
    split
    · exact .inl rfl
    · exact ih
theorem coreRow_down (es : List (Nat × Nat)) (n k r : Nat) (v : Nat) (hv : v < n) : nth (coreRow es n k (r + 1)) v ≤ nth (coreRow es n k r) v := by
  rw [coreRow_succ, nth_tab _ _ _ hv]
  have := coreRow_bit es n k r v hv
  unfold coresCur
  split <;> omega
theorem nth_past {xs : List Int} {i : Nat} (h : xs.length ≤ i) : nth xs i = 0 := by simp [nth, h]
theorem coreRow_less {es : List (Nat × Nat)} {n : Nat} (G : Graphy n es) {low high : Nat} (h : low ≤ high) (r : Nat) : ∀ v, v < n → nth (coreRow es n high r) v ≤ nth (coreRow es n low r) v := by
  induction r with
  | zero => intro v hv; exact Int.le_refl _
  | succ r ih =>
    intro v hv
    have hm : ∀ i, nth (coreRow es n high r) i ≠ 0 → nth (coreRow es n low r) i ≠ 0 := by
      intro i hi
      by_cases hn : i < n
      · have := ih i hn
        have := coreRow_bit es n high r i hn
        have := coreRow_bit es n low r i hn
        omega
      · rw [nth_past (by rw [coreRow_length]; omega)] at hi; exact absurd rfl hi
    have hc := cnt_mono hm v (tri es n)
    rw [← coreAcc_nth G high r hv, ← coreAcc_nth G low r hv] at hc
    have i0 := ih v hv
    have b1 := coreRow_bit es n high r v hv
    have b2 := coreRow_bit es n low r v hv
    rw [coreRow_succ, coreRow_succ, nth_tab _ _ _ hv, nth_tab _ _ _ hv]
    unfold coresCur coresGoes
    generalize nth (coreRow es n high r) v = x at *
    generalize nth (coreRow es n low r) v = y at *
    generalize nth (coreAcc es n high r) v = p at *
    generalize nth (coreAcc es n low r) v = q at *
    simp only [Bool.and_eq_true, Bool.not_eq_true', decide_eq_true_eq, decide_eq_false_iff_not]
    split <;> split <;> omega
end Go.Proofs.Ytedljgohmlilgaa
