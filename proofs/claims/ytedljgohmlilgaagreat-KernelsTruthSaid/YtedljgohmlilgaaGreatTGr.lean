/-
  truth.greatest.
-/
import Derived.Test.YtedljgohmlilgaaGreatTFar
namespace Go.Proofs.YtedljgohmlilgaaGreat
open Go.RowKit
set_option linter.unusedVariables false
set_option linter.unusedSimpArgs false

/-- The greatest distance that there is, of the first k. -/
def gm (out : List Int) : Nat → Int
  | 0 => 0
  | k + 1 => if nth out k = far then gm out k else if gm out k < nth out k then nth out k else gm out k
theorem gm_in {out : List Int} {n : Nat} (h : ∀ v, v < n → nth out v ≠ far → 0 ≤ nth out v ∧ nth out v < n) : ∀ k, k ≤ n → 0 ≤ gm out k ∧ gm out k ≤ n := by
  intro k
  induction k with
  | zero => intro _; simp [gm]
  | succ k ih =>
    intro hk
    have := ih (by omega)
    rw [gm]
    split
    · exact this
    · rename_i hf
      have := h k (by omega) hf
      split <;> omega
theorem gm_ge {out : List Int} : ∀ k v, v < k → nth out v ≠ far → nth out v ≤ gm out k := by
  intro k
  induction k with
  | zero => intro v hv; omega
  | succ k ih =>
    intro v hv hf
    rw [gm]
    rcases Nat.lt_or_ge v k with h | h
    · have := ih v h hf
      split
      · exact this
      · split <;> omega
    · obtain rfl : v = k := by omega
      rw [if_neg hf]
      split <;> omega
theorem gm_at {out : List Int} : ∀ k, gm out k = 0 ∨ ∃ v, v < k ∧ nth out v ≠ far ∧ nth out v = gm out k := by
  intro k
  induction k with
  | zero => exact .inl rfl
  | succ k ih =>
    rw [gm]
    by_cases hf : nth out k = far
    · rw [if_pos hf]
      rcases ih with h | ⟨v, hv, h1, h2⟩
      · exact .inl h
      · exact .inr ⟨v, by omega, h1, h2⟩
    · rw [if_neg hf]
      by_cases hl : gm out k < nth out k
      · rw [if_pos hl]; exact .inr ⟨k, by omega, hf, rfl⟩
      · rw [if_neg hl]
        rcases ih with h | ⟨v, hv, h1, h2⟩
        · exact .inl h
        · exact .inr ⟨v, by omega, h1, h2⟩

set_option maxRecDepth 100000 in
set_option maxHeartbeats 2000000 in
theorem tgreatest_ok (out : List Int) (n g : Nat) (w : World) (hu : U64s w g out) (hl : out.length = n) (hn : n ≤ 256) (h : ∀ v, v < n → nth out v ≠ far → 0 ≤ nth out v ∧ nth out v < n) :
    Calls Tryz.prog 35 #[.slice (some ⟨g, 0, none⟩) n n] w fun e w' => e = .returned (.int .i64 (gm out n)) ∧ w' = w := by
  have HI := hid (gm_in h)
  have HB := hid h
  clear h
  go_enter Tryz.func35, Tryz.ntmps35
  go_wp2
  go_loop [3, 5, 8] (fun m _ i => ∃ k : Nat, k ≤ n ∧ i = .int .i64 k ∧ m = .int .u64 (gm out k)) (fun _ _ i => n - (intOf i).toNat)
  case atStart => exact ⟨0, Nat.zero_le _, rfl, rfl⟩
  case round =>
    obtain ⟨k, hk, rfl, rfl⟩ := hrel
    by_cases hlt : k < n
    · obtain ⟨z, hz⟩ : ∃ z, z = nth out k := ⟨_, rfl⟩
      obtain ⟨m, hm⟩ : ∃ m, m = gm out k := ⟨_, rfl⟩
      have cz : w.cell? ⟨g, k, none⟩ = some (.int .u64 z) := by rw [hz]; exact hu.cell (by rw [hl]; exact hlt)
      have HZ := hid hz
      have HM := hid hm
      rw [← hm]
      clear hz hm
      by_cases hf : z = far
      · have d1 : (z != 18446744073709551615) = false := by rw [hf]; rfl
        have HG := hid (show gm out (k + 1) = m by rw [gm, if_pos (by rw [← HZ.out]; exact hf), ← HM.out])
        go_wp2
        exact ⟨⟨k + 1, by omega, by go_num, by rw [HG.out]⟩, by simp [intOf]; omega⟩
      · have d1 : (z != 18446744073709551615) = true := by rw [bne_iff_ne]; exact hf
        have HF := hid hf
        clear hf
        by_cases hml : m < z
        · have HG := hid (show gm out (k + 1) = z by rw [gm, if_neg (by rw [← HZ.out]; exact HF.out), if_pos (by rw [← HZ.out, ← HM.out]; exact hml), ← HZ.out])
          go_wp2
          exact ⟨⟨k + 1, by omega, by go_num, by rw [HG.out, show max m z = z by omega]⟩, by simp [intOf]; omega⟩
        · have HG := hid (show gm out (k + 1) = m by rw [gm, if_neg (by rw [← HZ.out]; exact HF.out), if_neg (by rw [← HZ.out, ← HM.out]; exact hml), ← HM.out])
          go_wp2
          exact ⟨⟨k + 1, by omega, by go_num, by rw [HG.out, show max m z = m by omega]⟩, by simp [intOf]; omega⟩
    · obtain rfl : k = n := by omega
      have hi := HI.out k (Nat.le_refl _)
      obtain ⟨m, hm⟩ : ∃ m, m = gm out k := ⟨_, rfl⟩
      rw [← hm] at hi ⊢
      have a1 : IntKind.i64.wrap m = m := IntWalk.i64_in _ (by omega)
      have HM := hid hm
      clear hm
      go_wp2
      go_ret
      exact ⟨by rw [← HM.out]; rfl, rfl⟩
end Go.Proofs.YtedljgohmlilgaaGreat
