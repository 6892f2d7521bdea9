/-
  The walks of the reference's Less, put, Normal.
-/
import Derived.Test.YtedljgohmlilgaaBfs
import Derived.Test.YtedljgohmlilgaaEL
namespace Go.Proofs.Ytedljgohmlilgaa
open Go.RowKit
set_option linter.unusedVariables false

set_option maxRecDepth 100000 in
set_option maxHeartbeats 1000000 in
theorem ELess_ok (x y : Nat × Nat) (w : World) : Calls Try.prog 104 #[.agg #[.int .i64 x.1, .int .i64 x.2], .agg #[.int .i64 y.1, .int .i64 y.2]] w fun e w' => e = .returned (.bool (eLess x y)) ∧ Kept [] w w' := by
  obtain ⟨a, b⟩ := x
  obtain ⟨c, d⟩ := y
  have hk : ∀ o o', Kept [] w ((w.alloc o).alloc o') := fun o o' => ((Kept.refl _ _).alloc _).alloc _
  by_cases h1 : a < c
  · have H := hid (show eLess (a, b) (c, d) = true by simp [eLess, h1])
    go_enter Try.func104, Try.ntmps104
    go_wp2
    go_ret
    exact ⟨by rw [H.out]; rfl, hk _ _⟩
  · have d1 : decide (a < c) = false := by simp; omega
    by_cases h2 : a = c
    · subst h2
      have H := hid (show eLess (a, b) (a, d) = decide (b < d) by simp [eLess])
      go_enter Try.func104, Try.ntmps104
      go_wp2
      go_ret
      exact ⟨by rw [H.out]; rfl, hk _ _⟩
    · have H := hid (show eLess (a, b) (c, d) = false by simp [eLess, h1, h2])
      have d2 : ((a : Int) == c) = false := by simp; omega
      clear h1
      go_enter Try.func104, Try.ntmps104
      go_wp2
      go_ret
      exact ⟨by rw [H.out]; rfl, hk _ _⟩
end Go.Proofs.Ytedljgohmlilgaa
