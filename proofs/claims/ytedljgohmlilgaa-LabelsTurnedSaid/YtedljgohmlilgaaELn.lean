/-
  The walk of the reference's Normal.
-/
import Derived.Test.YtedljgohmlilgaaELp
namespace Go.Proofs.Ytedljgohmlilgaa
open Go.RowKit
set_option linter.unusedVariables false

/-- Edges among n vertices, none of which leads to where it begins. -/
def Good (n : Nat) (l : List (Nat × Nat)) : Prop := ∀ i, i < l.length → (edge l i).1 < n ∧ (edge l i).2 < n ∧ (edge l i).1 ≠ (edge l i).2

set_option maxRecDepth 100000 in
set_option maxHeartbeats 2000000 in
theorem Normal_ok (B n : Nat) (l : Value) (es : List (Nat × Nat)) (w : World) (h : IsEdges w 40 B l es) (hn : es.length ≤ 999) (h1 : 1 ≤ n) (h2 : n ≤ 256) (hg : Good n es) :
    Calls Try.prog 49 #[.int .i64 n, l] w fun e w' => ∃ v, e = .returned (.tuple #[v, .int .i64 0]) ∧ Kept [] w w' ∧ IsEdges w' 40 w.heap.size v (normE es) := by
  obtain ⟨a, c, rfl, hc, hnone, hsome⟩ := h.slice
  have HG := hid hg; clear hg
  go_enter Try.func49, Try.ntmps49
  go_wp2
  go_loopw [6, 7, 8] (fun v i _ wr => ∃ k : Nat, k ≤ es.length ∧ i = .int .i64 k ∧ Kept [] w wr ∧ IsEdges wr 40 w.heap.size v (normE (es.take k))) (fun _ i _ _ => es.length - (intOf i).toNat)
  case atStart => exact ⟨0, Nat.zero_le _, rfl, Kept.refl _ _, ⟨World.ownsRow_nil _ _ _ _⟩⟩
  case round =>
    obtain ⟨k, hk, rfl, hK, hE⟩ := hrel
    by_cases hlt : k < es.length
    · have hal : ∃ ad, a = some ad := by
        cases a with
        | none => have := hnone rfl; omega
        | some ad => exact ⟨ad, rfl⟩
      obtain ⟨ad, rfl⟩ := hal
      obtain ⟨g, rfl, hgb, hgl, hcell⟩ := hsome ad rfl
      have e1 := hK.cell_some (hcell _ _ (cellsOf_at es k hlt).1) (by simp)
      have e2 := hK.cell_some (hcell _ _ (cellsOf_at es k hlt).2) (by simp)
      have g1 := (HG.out k hlt).1
      have g2 := (HG.out k hlt).2.1
      have d1 : decide (((edge es k).1 : Int) < 0) = false := by simp
      have d2 : decide ((n : Int) ≤ ((edge es k).1 : Int)) = false := by simp; omega
      have d2' : decide (n ≤ (edge es k).1) = false := by simp; omega
      have d3 : decide (((edge es k).2 : Int) < 0) = false := by simp
      have d4 : decide ((n : Int) ≤ ((edge es k).2 : Int)) = false := by simp; omega
      have d4' : decide (n ≤ (edge es k).2) = false := by simp; omega
      have d5 : (((edge es k).1 : Int) == ((edge es k).2 : Int)) = false := by have := (HG.out k hlt).2.2; simp; omega
      have H := hid (normE_take es k hlt)
      have hl := hid (normE_length (es.take k))
      clear hcell
      go_wp2_with fail
      refine (put_ok w.heap.size _ (normE (es.take k)) (edge es k) _ (hE.ext ((Kept.refl _ _).alloc _)) (hK.alloc _).size (by have := hl.out; simp at this; omega)).mono ?_
      rintro e w1 ⟨v, rfl, hk1, hE1⟩
      go_wp2
      exact ⟨⟨k + 1, by omega, by go_num, (hK.alloc _).trans hk1, by rw [H.out]; exact hE1⟩, by simp [intOf]; omega⟩
    · obtain rfl : k = es.length := by omega
      rw [List.take_length] at hE
      have hl := hid (normE_length es)
      obtain ⟨a', c', rfl, hc', hnone', hsome'⟩ := hE.slice
      have d1 : decide ((4096 : Int) < ((normE es).length : Int)) = false := by have := hl.out; simp; omega
      go_wp2
      go_ret2
      exact ⟨_, rfl, hK, hE⟩
end Go.Proofs.Ytedljgohmlilgaa
