/-
  The library's Sort and Compact at a list that rises.
-/
import Derived.Test.YtedljgohmlilgaaGreatVec
import Derived.Test.YtedljgohmlilgaaGreatMk
import Derived.Test.YtedljgohmlilgaaGreatShelf
namespace Go.Proofs.YtedljgohmlilgaaGreat
open Go.RowKit
set_option linter.unusedVariables false

def ints (xs : List Nat) : List Int := xs.map fun (n : Nat) => (n : Int)
theorem ints_length (xs : List Nat) : (ints xs).length = xs.length := by simp [ints]
theorem holds_own {w : World} {B E g cap : Nat} {xs : List Nat} (h : w.ownsRow B E 1 (.slice (some ⟨g, 0, none⟩) xs.length cap) xs.length (intCells xs)) : Sort.Holds (Value.int .i64) w g 0 (ints xs).toArray := by
  rcases h.2 with ⟨h0, _⟩ | ⟨g', cap', cur, hv, _, hg, _⟩
  · cases h0
  · cases hv
    intro j hj
    have hj' : j < xs.length := by simpa [ints] using hj
    refine ⟨?_, frozen_of_obj hg _⟩
    obtain ⟨a, c, hv, _, _, hs⟩ := ownsRow_slice h
    cases hv
    obtain ⟨g2, he, _, _, hc⟩ := hs _ rfl
    cases he
    rw [Nat.zero_add, hc _ _ (intCells_at hj'), nat_eq hj']
    simp [ints, hj']
theorem sorted_ints {xs : List Nat} (h : xs.Pairwise (· < ·)) : (ints xs).Pairwise (fun x y => decide (x ≤ y) = true) := by
  unfold ints
  rw [List.pairwise_map]
  exact h.imp fun {a b} hab => by simp; omega
theorem compact_ints {xs : List Nat} (h : xs.Pairwise (· < ·)) : Lib.compact (ints xs) = ints xs := by
  refine Lib.compact_all _ fun j hj => ?_
  have hj' : j < xs.length := by simpa [ints] using hj
  by_cases h0 : j = 0
  · subst h0; simp [Lib.keeps]
  · refine Lib.keeps_pos ?_
    have h1 : j - 1 < (ints xs).length := by omega
    rw [getElem!_pos (ints xs).toArray j (by simpa using hj), getElem!_pos (ints xs).toArray (j - 1) (by simpa using h1)]
    have := List.pairwise_iff_getElem.1 h (j - 1) j (by omega) hj' (by omega)
    simp [ints]
    omega

theorem Sort_ok (B : Nat) (v : Value) (xs : List Nat) (w : World) (h : w.ownsRow B 3 1 v xs.length (intCells xs)) (hs : xs.Pairwise (· < ·)) (hl : xs.length ≤ 1000000) :
    Calls Tryz.prog 27 #[v] w fun e w' => e = .returned (.tuple #[]) ∧ Kept [] w w' := by
  obtain ⟨a, c, rfl, hc, hnone, hsome⟩ := ownsRow_slice h
  by_cases h0 : xs.length = 0
  · rw [h0]
    exact (Tryz.slices_Sort_int_none a c w).mono fun e w' ⟨h1, h2⟩ => ⟨h1, h2 ▸ Kept.refl _ _⟩
  · cases a with
    | none => exact absurd (hnone rfl).1 h0
    | some ad =>
      obtain ⟨g, rfl, _, hg, _⟩ := hsome ad rfl
      have hH := holds_own h
      have := Tryz.slices_Sort_int g 0 c (ints xs) w hH hg (by rw [ints_length]; omega)
      rw [ints_length] at this
      refine this.mono fun e w' ⟨h1, n, os, h2⟩ => ⟨h1, ?_⟩
      rw [List.mergeSort_of_pairwise (sorted_ints hs), Sort.putRow_ahead, Sort.putRow_self _ _ _ _ _ hH] at h2
      subst h2
      refine ⟨rfl, rfl, rfl, by simp [Sort.grow], fun k hk _ => ?_⟩
      simp [Sort.grow, Array.getElem?_append, hk]
theorem Compact_ok (B : Nat) (v : Value) (xs : List Nat) (w : World) (h : w.ownsRow B 3 1 v xs.length (intCells xs)) (hs : xs.Pairwise (· < ·)) (hl : xs.length ≤ 1000000) :
    Calls Tryz.prog 28 #[v] w fun e w' => e = .returned v ∧ ∃ m, w' = w.drewN m := by
  obtain ⟨a, c, rfl, hc, hnone, hsome⟩ := ownsRow_slice h
  by_cases h0 : xs.length = 0
  · rw [h0]
    exact (Tryz.slices_Compact_int_empty a c w).mono fun e w' ⟨h1, h2⟩ => ⟨h1, 0, h2⟩
  · cases a with
    | none => exact absurd (hnone rfl).1 h0
    | some ad =>
      obtain ⟨g, rfl, _, hg, _⟩ := hsome ad rfl
      have hH := holds_own h
      have := Tryz.slices_Compact_int g 0 c (ints xs) w hH (by rw [ints_length]; omega) (by rw [ints_length]; exact hc)
      rw [compact_ints hs, ints_length] at this
      refine this.mono fun e w' ⟨h1, q, h2⟩ => ⟨h1, q, ?_⟩
      rw [Nat.sub_self, List.replicate_zero, List.append_nil, Sort.putRow_ahead, Sort.putRow_self _ _ _ _ _ hH] at h2
      exact h2
end Go.Proofs.YtedljgohmlilgaaGreat
