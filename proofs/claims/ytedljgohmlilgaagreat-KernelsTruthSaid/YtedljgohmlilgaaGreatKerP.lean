/-
  The kernels in plain words, by their kinds. No program in sight.
-/
import Derived.Test.YtedljgohmlilgaaGreatGOrd
namespace Go.Proofs.YtedljgohmlilgaaGreat
set_option linter.unusedVariables false

def kCur0 (k g n : Nat) : List Int := match k with
  | 1 => tab (farBut g) n
  | 2 => tab (fun _ => one) n
  | 3 => tab (fun i => i) n
  | _ => tab (fun _ => 1) n
def kAcc0 (k n : Nat) : List Int := match k with
  | 1 => tab (fun _ => far) n
  | 2 => tab (fun _ => 0) n
  | 3 => tab (fun i => i) n
  | _ => tab (fun _ => 0) n
def kEdges (k r : Nat) (xs ys : List Int) (T : List (Nat × Nat × Nat)) : List Int := match k with
  | 1 => bfsShard r xs ys T
  | 2 => rankShard xs ys T
  | 3 => labelsShard xs ys T
  | _ => coresShard xs ys T
def kCur (k g n : Nat) (xs ys : List Int) : List Int := match k with
  | 1 => tab (bfsCur xs ys) n
  | 2 => tab (fun i => ranked (nth ys i)) n
  | 3 => tab (labelsCur xs ys) n
  | _ => tab (coresCur g xs ys) n
def kAcc (k n : Nat) (ys : List Int) : List Int := match k with
  | 1 => tab (fun _ => far) n
  | 2 => tab (fun _ => 0) n
  | 3 => ys
  | _ => tab (fun _ => 0) n
def kDone (k g r : Nat) (xs ys : List Int) : Bool := match k with
  | 1 => bfsDone xs ys
  | 2 => rankDone g r
  | 3 => labelsDone xs ys
  | _ => coresDone g xs ys
theorem kCur0_length (k g n : Nat) : (kCur0 k g n).length = n := by unfold kCur0; split <;> exact tab_length _ _
theorem kAcc0_length (k n : Nat) : (kAcc0 k n).length = n := by unfold kAcc0; split <;> exact tab_length _ _
theorem kEdges_length (k r : Nat) (xs ys : List Int) (T : List (Nat × Nat × Nat)) : (kEdges k r xs ys T).length = ys.length := by
  unfold kEdges; split
  · exact bfsShard_length _ _ _ _
  · exact rankShard_length _ _ _
  · exact labelsShard_length _ _ _
  · exact coresShard_length _ _ _
theorem kCur_length (k g n : Nat) (xs ys : List Int) : (kCur k g n xs ys).length = n := by unfold kCur; split <;> exact tab_length _ _
theorem kAcc_length (k n : Nat) {ys : List Int} (h : ys.length = n) : (kAcc k n ys).length = n := by
  unfold kAcc; split
  · exact tab_length _ _
  · exact tab_length _ _
  · exact h
  · exact tab_length _ _
theorem kEdges_nil (k r : Nat) (xs ys : List Int) : kEdges k r xs ys [] = ys := by unfold kEdges; split <;> rfl
theorem kEdges_append (k r : Nat) (xs ys : List Int) (T U : List (Nat × Nat × Nat)) : kEdges k r xs ys (T ++ U) = kEdges k r xs (kEdges k r xs ys T) U := by
  match k with
  | 1 => exact bfsShard_append _ _ _ _ _
  | 2 => simp [kEdges, rankShard]
  | 3 => exact labelsShard_append _ _ _ _
  | 0 => exact coresShard_append _ _ _ _
  | k + 4 => exact coresShard_append _ _ _ _
/-- Ranks are words; of the others nobody asks. -/
def kWords (k : Nat) (xs ys : List Int) : Prop := k = 2 → Words xs ∧ Words ys
theorem kWords_0 (k g n : Nat) : kWords k (kCur0 k g n) (kAcc0 k n) := fun h => by
  subst h; exact ⟨Words.tab n (fun _ => by unfold one; omega), Words.tab n (fun _ => by omega)⟩
theorem kWords_edges {k r : Nat} {xs ys : List Int} (h : kWords k xs ys) (T : List (Nat × Nat × Nat)) : kWords k xs (kEdges k r xs ys T) := fun e => by
  have := h e; subst e; exact ⟨this.1, rankShard_words this.2 T⟩
theorem kWords_next (k g n : Nat) (xs ys : List Int) : kWords k (kCur k g n xs ys) (kAcc k n ys) := fun h => by
  subst h; exact ⟨Words.tab n (fun i => word_in _), Words.tab n (fun _ => by omega)⟩

/-- Rows at a round's begin. -/
def kState (k g n : Nat) (T : List (Nat × Nat × Nat)) : Nat → List Int × List Int
  | 0 => (kCur0 k g n, kAcc0 k n)
  | r + 1 => (kCur k g n (kState k g n T r).1 (kEdges k r (kState k g n T r).1 (kState k g n T r).2 T), kAcc k n (kEdges k r (kState k g n T r).1 (kState k g n T r).2 T))
def kCurAt (k g n : Nat) (T : List (Nat × Nat × Nat)) (r : Nat) : List Int := (kState k g n T r).1
def kAccAt (k g n : Nat) (T : List (Nat × Nat × Nat)) (r : Nat) : List Int := (kState k g n T r).2
def kFull (k g n : Nat) (T : List (Nat × Nat × Nat)) (r : Nat) : List Int := kEdges k r (kCurAt k g n T r) (kAccAt k g n T r) T
theorem kCurAt_zero (k g n : Nat) (T : List (Nat × Nat × Nat)) : kCurAt k g n T 0 = kCur0 k g n := rfl
theorem kAccAt_zero (k g n : Nat) (T : List (Nat × Nat × Nat)) : kAccAt k g n T 0 = kAcc0 k n := rfl
theorem kCurAt_succ (k g n : Nat) (T : List (Nat × Nat × Nat)) (r : Nat) : kCurAt k g n T (r + 1) = kCur k g n (kCurAt k g n T r) (kFull k g n T r) := rfl
theorem kAccAt_succ (k g n : Nat) (T : List (Nat × Nat × Nat)) (r : Nat) : kAccAt k g n T (r + 1) = kAcc k n (kFull k g n T r) := rfl
theorem kState_length (k g n : Nat) (T : List (Nat × Nat × Nat)) (r : Nat) : (kCurAt k g n T r).length = n ∧ (kAccAt k g n T r).length = n := by
  induction r with
  | zero => exact ⟨kCur0_length _ _ _, kAcc0_length _ _⟩
  | succ r ih => exact ⟨kCur_length _ _ _ _ _, kAcc_length _ _ (by show (kEdges _ _ _ _ _).length = n; rw [kEdges_length]; exact ih.2)⟩
theorem kState_words (k g n : Nat) (T : List (Nat × Nat × Nat)) (r : Nat) : kWords k (kCurAt k g n T r) (kAccAt k g n T r) := by
  cases r with
  | zero => exact kWords_0 k g n
  | succ r => exact kWords_next k g n _ _
/-- What comes of rounds from r on, at most so many. -/
def runFrom (k g n : Nat) (T : List (Nat × Nat × Nat)) : Nat → Nat → List Int × Nat
  | 0, r => (kCurAt k g n T r, r)
  | f + 1, r => if kDone k g r (kCurAt k g n T r) (kFull k g n T r) = true then (kCurAt k g n T (r + 1), r + 1) else runFrom k g n T f (r + 1)
theorem runFrom_done {k g n : Nat} {T : List (Nat × Nat × Nat)} {f r : Nat} (h : kDone k g r (kCurAt k g n T r) (kFull k g n T r) = true) : runFrom k g n T (f + 1) r = (kCurAt k g n T (r + 1), r + 1) := by rw [runFrom, if_pos h]
theorem runFrom_next {k g n : Nat} {T : List (Nat × Nat × Nat)} {f r : Nat} (h : kDone k g r (kCurAt k g n T r) (kFull k g n T r) = false) : runFrom k g n T (f + 1) r = runFrom k g n T f (r + 1) := by rw [runFrom, if_neg (by simp [h])]
theorem runFrom_length (k g n : Nat) (T : List (Nat × Nat × Nat)) (f : Nat) : ∀ r, (runFrom k g n T f r).1.length = n := by
  induction f with
  | zero => intro r; exact (kState_length k g n T r).1
  | succ f ih =>
    intro r
    rw [runFrom]; split
    · exact (kState_length k g n T (r + 1)).1
    · exact ih _
end Go.Proofs.YtedljgohmlilgaaGreat
