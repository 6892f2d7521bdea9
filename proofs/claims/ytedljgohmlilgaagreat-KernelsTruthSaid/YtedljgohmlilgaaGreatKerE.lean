/-
  The walks of KernelsNone's and KernelsParts' chapter graph: carousellaw21.turns. (printed by turns.py)
-/
import Derived.Test.YtedljgohmlilgaaGreatGKerU
import Derived.Test.YtedljgohmlilgaaGreatEndR
namespace Go.Proofs.YtedljgohmlilgaaGreat
open Go.RowKit
set_option linter.unusedVariables false

set_option maxRecDepth 100000 in
set_option maxHeartbeats 1000000 in
theorem Run_no (g p d n : Nat) (s : Value) (w : World) (h : n ≤ g) (hp : p ≤ 7) (n1 : 1 ≤ n) (n2 : n ≤ 256) :
    Calls Tryz.prog 10 #[rq 1 g p d, .int .i64 n, s] w fun e w' => e = .returned (.tuple #[.slice none 0 0, .int .i64 0, .int .i64 2]) ∧ Kept [] w w' := by
  go_enter Tryz.func10, Tryz.ntmps10
  go_wp2_with fail
  refine (tCheck_no g p d n _ h hp n1 n2).mono ?_
  rintro e w1 ⟨rfl, hk1⟩
  have K := hid (((Kept.refl [] w).alloc _).trans hk1)
  clear hk1
  go_wp2_with fail
  go_ret3
  exact ⟨rfl, K.out⟩

theorem within_lit {rows : List (List Nat)} {n : Nat} (h : (rows.all fun r => r.all fun v => decide (v < n)) = true) : Within rows n := by
  intro i hi j hj
  rw [List.all_eq_true] at h
  rw [row_eq hi] at hj ⊢
  have h2 := h _ (List.getElem_mem hi)
  rw [List.all_eq_true] at h2
  rw [nat_eq hj]
  simpa using h2 _ (List.getElem_mem hj)
theorem short_lit {rows : List (List Nat)} {b : Nat} (h : (rows.all fun r => decide (r.length ≤ b)) = true) : ∀ j, j < rows.length → (row rows j).length ≤ b := by
  intro j hj
  rw [List.all_eq_true] at h
  rw [row_eq hj]
  simpa using h _ (List.getElem_mem hj)

def shOne : List (Nat × List (List Nat)) := [(0, [[1], [2]]), (2, [[0], []])]
def shTwo : List (Nat × List (List Nat)) := [(2, [[0], []]), (0, [[1], [2]])]
theorem run_one : runFrom 1 0 4 (allEdges shOne) (bound 1 0 4) 0 = ([0, 1, 2, 18446744073709551615], 3) := by decide +kernel
theorem run_two : runFrom 1 0 4 (allEdges shTwo) (bound 1 0 4) 0 = ([0, 1, 2, 18446744073709551615], 3) := by decide +kernel

set_option maxRecDepth 100000 in
set_option maxHeartbeats 4000000 in
theorem turns_ok (w : World) : Calls Tryz.prog 5 #[] w fun e w' => e = .returned (.bool true) ∧ Kept [] w w' := by
  go_enter Tryz.func5, Tryz.ntmps5
  go_wp2_with fail
  have kA : Kept [] w (((((((((w.alloc (.cells #[.int .i64 1] 3)).alloc (.cells #[.int .i64 2] 3)).alloc (.cells #[.slice (some ⟨w.heap.size, 0, none⟩) 1 1, .slice (some ⟨w.heap.size + 1, 0, none⟩) 1 1] 37)).alloc (.cells #[.int .i64 0, .int .i64 2, .slice (some ⟨w.heap.size + 1 + 1, 0, none⟩) 2 2] 43)).alloc (.cells #[.int .i64 0] 3)).alloc (.cells #[.slice (some ⟨w.heap.size + 1 + 1 + 1 + 1, 0, none⟩) 1 1, .slice none 0 0] 37)).alloc (.cells #[.int .i64 2, .int .i64 4, .slice (some ⟨w.heap.size + 1 + 1 + 1 + 1 + 1, 0, none⟩) 2 2] 43)).alloc (.cells #[.int .i64 1, .int .i64 0, .int .i64 0, .int .i64 0] 45)).alloc (.cells #[.int .i64 0, .int .i64 2, .slice (some ⟨w.heap.size + 1 + 1, 0, none⟩) 2 2, .int .i64 2, .int .i64 4, .slice (some ⟨w.heap.size + 1 + 1 + 1 + 1 + 1, 0, none⟩) 2 2] 43)) := ((((((((((Kept.refl _ _).alloc _).alloc _).alloc _).alloc _).alloc _).alloc _).alloc _).alloc _).alloc _)
  have o0 : (((((((((w.alloc (.cells #[.int .i64 1] 3)).alloc (.cells #[.int .i64 2] 3)).alloc (.cells #[.slice (some ⟨w.heap.size, 0, none⟩) 1 1, .slice (some ⟨w.heap.size + 1, 0, none⟩) 1 1] 37)).alloc (.cells #[.int .i64 0, .int .i64 2, .slice (some ⟨w.heap.size + 1 + 1, 0, none⟩) 2 2] 43)).alloc (.cells #[.int .i64 0] 3)).alloc (.cells #[.slice (some ⟨w.heap.size + 1 + 1 + 1 + 1, 0, none⟩) 1 1, .slice none 0 0] 37)).alloc (.cells #[.int .i64 2, .int .i64 4, .slice (some ⟨w.heap.size + 1 + 1 + 1 + 1 + 1, 0, none⟩) 2 2] 43)).alloc (.cells #[.int .i64 1, .int .i64 0, .int .i64 0, .int .i64 0] 45)).alloc (.cells #[.int .i64 0, .int .i64 2, .slice (some ⟨w.heap.size + 1 + 1, 0, none⟩) 2 2, .int .i64 2, .int .i64 4, .slice (some ⟨w.heap.size + 1 + 1 + 1 + 1 + 1, 0, none⟩) 2 2] 43)).heap[w.heap.size]? = some (.cells #[.int .i64 1] 3 (0, 0)) := (obj_alloc_old (obj_alloc_old (obj_alloc_old (obj_alloc_old (obj_alloc_old (obj_alloc_old (obj_alloc_old (obj_alloc_old (new_obj (by simp)) _) _) _) _) _) _) _) _)
  have o1 : (((((((((w.alloc (.cells #[.int .i64 1] 3)).alloc (.cells #[.int .i64 2] 3)).alloc (.cells #[.slice (some ⟨w.heap.size, 0, none⟩) 1 1, .slice (some ⟨w.heap.size + 1, 0, none⟩) 1 1] 37)).alloc (.cells #[.int .i64 0, .int .i64 2, .slice (some ⟨w.heap.size + 1 + 1, 0, none⟩) 2 2] 43)).alloc (.cells #[.int .i64 0] 3)).alloc (.cells #[.slice (some ⟨w.heap.size + 1 + 1 + 1 + 1, 0, none⟩) 1 1, .slice none 0 0] 37)).alloc (.cells #[.int .i64 2, .int .i64 4, .slice (some ⟨w.heap.size + 1 + 1 + 1 + 1 + 1, 0, none⟩) 2 2] 43)).alloc (.cells #[.int .i64 1, .int .i64 0, .int .i64 0, .int .i64 0] 45)).alloc (.cells #[.int .i64 0, .int .i64 2, .slice (some ⟨w.heap.size + 1 + 1, 0, none⟩) 2 2, .int .i64 2, .int .i64 4, .slice (some ⟨w.heap.size + 1 + 1 + 1 + 1 + 1, 0, none⟩) 2 2] 43)).heap[w.heap.size + 1]? = some (.cells #[.int .i64 2] 3 (0, 0)) := (obj_alloc_old (obj_alloc_old (obj_alloc_old (obj_alloc_old (obj_alloc_old (obj_alloc_old (obj_alloc_old (new_obj (by simp)) _) _) _) _) _) _) _)
  have o2 : (((((((((w.alloc (.cells #[.int .i64 1] 3)).alloc (.cells #[.int .i64 2] 3)).alloc (.cells #[.slice (some ⟨w.heap.size, 0, none⟩) 1 1, .slice (some ⟨w.heap.size + 1, 0, none⟩) 1 1] 37)).alloc (.cells #[.int .i64 0, .int .i64 2, .slice (some ⟨w.heap.size + 1 + 1, 0, none⟩) 2 2] 43)).alloc (.cells #[.int .i64 0] 3)).alloc (.cells #[.slice (some ⟨w.heap.size + 1 + 1 + 1 + 1, 0, none⟩) 1 1, .slice none 0 0] 37)).alloc (.cells #[.int .i64 2, .int .i64 4, .slice (some ⟨w.heap.size + 1 + 1 + 1 + 1 + 1, 0, none⟩) 2 2] 43)).alloc (.cells #[.int .i64 1, .int .i64 0, .int .i64 0, .int .i64 0] 45)).alloc (.cells #[.int .i64 0, .int .i64 2, .slice (some ⟨w.heap.size + 1 + 1, 0, none⟩) 2 2, .int .i64 2, .int .i64 4, .slice (some ⟨w.heap.size + 1 + 1 + 1 + 1 + 1, 0, none⟩) 2 2] 43)).heap[w.heap.size + 1 + 1]? = some (.cells #[.slice (some ⟨w.heap.size, 0, none⟩) 1 1, .slice (some ⟨w.heap.size + 1, 0, none⟩) 1 1] 37 (0, 0)) := (obj_alloc_old (obj_alloc_old (obj_alloc_old (obj_alloc_old (obj_alloc_old (obj_alloc_old (new_obj (by simp)) _) _) _) _) _) _)
  have o3 : (((((((((w.alloc (.cells #[.int .i64 1] 3)).alloc (.cells #[.int .i64 2] 3)).alloc (.cells #[.slice (some ⟨w.heap.size, 0, none⟩) 1 1, .slice (some ⟨w.heap.size + 1, 0, none⟩) 1 1] 37)).alloc (.cells #[.int .i64 0, .int .i64 2, .slice (some ⟨w.heap.size + 1 + 1, 0, none⟩) 2 2] 43)).alloc (.cells #[.int .i64 0] 3)).alloc (.cells #[.slice (some ⟨w.heap.size + 1 + 1 + 1 + 1, 0, none⟩) 1 1, .slice none 0 0] 37)).alloc (.cells #[.int .i64 2, .int .i64 4, .slice (some ⟨w.heap.size + 1 + 1 + 1 + 1 + 1, 0, none⟩) 2 2] 43)).alloc (.cells #[.int .i64 1, .int .i64 0, .int .i64 0, .int .i64 0] 45)).alloc (.cells #[.int .i64 0, .int .i64 2, .slice (some ⟨w.heap.size + 1 + 1, 0, none⟩) 2 2, .int .i64 2, .int .i64 4, .slice (some ⟨w.heap.size + 1 + 1 + 1 + 1 + 1, 0, none⟩) 2 2] 43)).heap[w.heap.size + 1 + 1 + 1]? = some (.cells #[.int .i64 0, .int .i64 2, .slice (some ⟨w.heap.size + 1 + 1, 0, none⟩) 2 2] 43 (0, 0)) := (obj_alloc_old (obj_alloc_old (obj_alloc_old (obj_alloc_old (obj_alloc_old (new_obj (by simp)) _) _) _) _) _)
  have o4 : (((((((((w.alloc (.cells #[.int .i64 1] 3)).alloc (.cells #[.int .i64 2] 3)).alloc (.cells #[.slice (some ⟨w.heap.size, 0, none⟩) 1 1, .slice (some ⟨w.heap.size + 1, 0, none⟩) 1 1] 37)).alloc (.cells #[.int .i64 0, .int .i64 2, .slice (some ⟨w.heap.size + 1 + 1, 0, none⟩) 2 2] 43)).alloc (.cells #[.int .i64 0] 3)).alloc (.cells #[.slice (some ⟨w.heap.size + 1 + 1 + 1 + 1, 0, none⟩) 1 1, .slice none 0 0] 37)).alloc (.cells #[.int .i64 2, .int .i64 4, .slice (some ⟨w.heap.size + 1 + 1 + 1 + 1 + 1, 0, none⟩) 2 2] 43)).alloc (.cells #[.int .i64 1, .int .i64 0, .int .i64 0, .int .i64 0] 45)).alloc (.cells #[.int .i64 0, .int .i64 2, .slice (some ⟨w.heap.size + 1 + 1, 0, none⟩) 2 2, .int .i64 2, .int .i64 4, .slice (some ⟨w.heap.size + 1 + 1 + 1 + 1 + 1, 0, none⟩) 2 2] 43)).heap[w.heap.size + 1 + 1 + 1 + 1]? = some (.cells #[.int .i64 0] 3 (0, 0)) := (obj_alloc_old (obj_alloc_old (obj_alloc_old (obj_alloc_old (new_obj (by simp)) _) _) _) _)
  have o5 : (((((((((w.alloc (.cells #[.int .i64 1] 3)).alloc (.cells #[.int .i64 2] 3)).alloc (.cells #[.slice (some ⟨w.heap.size, 0, none⟩) 1 1, .slice (some ⟨w.heap.size + 1, 0, none⟩) 1 1] 37)).alloc (.cells #[.int .i64 0, .int .i64 2, .slice (some ⟨w.heap.size + 1 + 1, 0, none⟩) 2 2] 43)).alloc (.cells #[.int .i64 0] 3)).alloc (.cells #[.slice (some ⟨w.heap.size + 1 + 1 + 1 + 1, 0, none⟩) 1 1, .slice none 0 0] 37)).alloc (.cells #[.int .i64 2, .int .i64 4, .slice (some ⟨w.heap.size + 1 + 1 + 1 + 1 + 1, 0, none⟩) 2 2] 43)).alloc (.cells #[.int .i64 1, .int .i64 0, .int .i64 0, .int .i64 0] 45)).alloc (.cells #[.int .i64 0, .int .i64 2, .slice (some ⟨w.heap.size + 1 + 1, 0, none⟩) 2 2, .int .i64 2, .int .i64 4, .slice (some ⟨w.heap.size + 1 + 1 + 1 + 1 + 1, 0, none⟩) 2 2] 43)).heap[w.heap.size + 1 + 1 + 1 + 1 + 1]? = some (.cells #[.slice (some ⟨w.heap.size + 1 + 1 + 1 + 1, 0, none⟩) 1 1, .slice none 0 0] 37 (0, 0)) := (obj_alloc_old (obj_alloc_old (obj_alloc_old (new_obj (by simp)) _) _) _)
  have o6 : (((((((((w.alloc (.cells #[.int .i64 1] 3)).alloc (.cells #[.int .i64 2] 3)).alloc (.cells #[.slice (some ⟨w.heap.size, 0, none⟩) 1 1, .slice (some ⟨w.heap.size + 1, 0, none⟩) 1 1] 37)).alloc (.cells #[.int .i64 0, .int .i64 2, .slice (some ⟨w.heap.size + 1 + 1, 0, none⟩) 2 2] 43)).alloc (.cells #[.int .i64 0] 3)).alloc (.cells #[.slice (some ⟨w.heap.size + 1 + 1 + 1 + 1, 0, none⟩) 1 1, .slice none 0 0] 37)).alloc (.cells #[.int .i64 2, .int .i64 4, .slice (some ⟨w.heap.size + 1 + 1 + 1 + 1 + 1, 0, none⟩) 2 2] 43)).alloc (.cells #[.int .i64 1, .int .i64 0, .int .i64 0, .int .i64 0] 45)).alloc (.cells #[.int .i64 0, .int .i64 2, .slice (some ⟨w.heap.size + 1 + 1, 0, none⟩) 2 2, .int .i64 2, .int .i64 4, .slice (some ⟨w.heap.size + 1 + 1 + 1 + 1 + 1, 0, none⟩) 2 2] 43)).heap[w.heap.size + 1 + 1 + 1 + 1 + 1 + 1]? = some (.cells #[.int .i64 2, .int .i64 4, .slice (some ⟨w.heap.size + 1 + 1 + 1 + 1 + 1, 0, none⟩) 2 2] 43 (0, 0)) := (obj_alloc_old (obj_alloc_old (new_obj (by simp)) _) _)
  have o7 : (((((((((w.alloc (.cells #[.int .i64 1] 3)).alloc (.cells #[.int .i64 2] 3)).alloc (.cells #[.slice (some ⟨w.heap.size, 0, none⟩) 1 1, .slice (some ⟨w.heap.size + 1, 0, none⟩) 1 1] 37)).alloc (.cells #[.int .i64 0, .int .i64 2, .slice (some ⟨w.heap.size + 1 + 1, 0, none⟩) 2 2] 43)).alloc (.cells #[.int .i64 0] 3)).alloc (.cells #[.slice (some ⟨w.heap.size + 1 + 1 + 1 + 1, 0, none⟩) 1 1, .slice none 0 0] 37)).alloc (.cells #[.int .i64 2, .int .i64 4, .slice (some ⟨w.heap.size + 1 + 1 + 1 + 1 + 1, 0, none⟩) 2 2] 43)).alloc (.cells #[.int .i64 1, .int .i64 0, .int .i64 0, .int .i64 0] 45)).alloc (.cells #[.int .i64 0, .int .i64 2, .slice (some ⟨w.heap.size + 1 + 1, 0, none⟩) 2 2, .int .i64 2, .int .i64 4, .slice (some ⟨w.heap.size + 1 + 1 + 1 + 1 + 1, 0, none⟩) 2 2] 43)).heap[w.heap.size + 1 + 1 + 1 + 1 + 1 + 1 + 1]? = some (.cells #[.int .i64 1, .int .i64 0, .int .i64 0, .int .i64 0] 45 (0, 0)) := (obj_alloc_old (new_obj (by simp)) _)
  have o8 : (((((((((w.alloc (.cells #[.int .i64 1] 3)).alloc (.cells #[.int .i64 2] 3)).alloc (.cells #[.slice (some ⟨w.heap.size, 0, none⟩) 1 1, .slice (some ⟨w.heap.size + 1, 0, none⟩) 1 1] 37)).alloc (.cells #[.int .i64 0, .int .i64 2, .slice (some ⟨w.heap.size + 1 + 1, 0, none⟩) 2 2] 43)).alloc (.cells #[.int .i64 0] 3)).alloc (.cells #[.slice (some ⟨w.heap.size + 1 + 1 + 1 + 1, 0, none⟩) 1 1, .slice none 0 0] 37)).alloc (.cells #[.int .i64 2, .int .i64 4, .slice (some ⟨w.heap.size + 1 + 1 + 1 + 1 + 1, 0, none⟩) 2 2] 43)).alloc (.cells #[.int .i64 1, .int .i64 0, .int .i64 0, .int .i64 0] 45)).alloc (.cells #[.int .i64 0, .int .i64 2, .slice (some ⟨w.heap.size + 1 + 1, 0, none⟩) 2 2, .int .i64 2, .int .i64 4, .slice (some ⟨w.heap.size + 1 + 1 + 1 + 1 + 1, 0, none⟩) 2 2] 43)).heap[w.heap.size + 1 + 1 + 1 + 1 + 1 + 1 + 1 + 1]? = some (.cells #[.int .i64 0, .int .i64 2, .slice (some ⟨w.heap.size + 1 + 1, 0, none⟩) 2 2, .int .i64 2, .int .i64 4, .slice (some ⟨w.heap.size + 1 + 1 + 1 + 1 + 1, 0, none⟩) 2 2] 43 (0, 0)) := (new_obj (by simp))
  generalize hWW : (((((((((w.alloc (.cells #[.int .i64 1] 3)).alloc (.cells #[.int .i64 2] 3)).alloc (.cells #[.slice (some ⟨w.heap.size, 0, none⟩) 1 1, .slice (some ⟨w.heap.size + 1, 0, none⟩) 1 1] 37)).alloc (.cells #[.int .i64 0, .int .i64 2, .slice (some ⟨w.heap.size + 1 + 1, 0, none⟩) 2 2] 43)).alloc (.cells #[.int .i64 0] 3)).alloc (.cells #[.slice (some ⟨w.heap.size + 1 + 1 + 1 + 1, 0, none⟩) 1 1, .slice none 0 0] 37)).alloc (.cells #[.int .i64 2, .int .i64 4, .slice (some ⟨w.heap.size + 1 + 1 + 1 + 1 + 1, 0, none⟩) 2 2] 43)).alloc (.cells #[.int .i64 1, .int .i64 0, .int .i64 0, .int .i64 0] 45)).alloc (.cells #[.int .i64 0, .int .i64 2, .slice (some ⟨w.heap.size + 1 + 1, 0, none⟩) 2 2, .int .i64 2, .int .i64 4, .slice (some ⟨w.heap.size + 1 + 1 + 1 + 1 + 1, 0, none⟩) 2 2] 43)) = W at *
  have L1 : ShardList _ 4 (some ⟨w.heap.size + 1 + 1 + 1 + 1 + 1 + 1 + 1 + 1, 0, none⟩) shOne := ⟨fun i hi => by
    match i, hi with
    | 0, _ => exact ⟨w.heap.size + 1 + 1 + 1 + 1 + 1 + 1 + 1 + 1, 0, some ⟨w.heap.size + 1 + 1, 0, none⟩, 2, rfl, by rw [cell_of_obj o8]; rfl, by rw [cell_of_obj o8]; rfl, by rw [cell_of_obj o8]; rfl, (out_of (vals := [.slice (some ⟨w.heap.size, 0, none⟩) 1 1, .slice (some ⟨w.heap.size + 1, 0, none⟩) 1 1]) o2 (by simp) rfl (fun i hi => by
      match i, hi with
      | 0, _ => exact ⟨_, _, rfl, nats_of (xs := [1]) o0 (by simp)⟩
      | 1, _ => exact ⟨_, _, rfl, nats_of (xs := [2]) o1 (by simp)⟩))⟩
    | 1, _ => exact ⟨w.heap.size + 1 + 1 + 1 + 1 + 1 + 1 + 1 + 1, 0, some ⟨w.heap.size + 1 + 1 + 1 + 1 + 1, 0, none⟩, 2, rfl, by rw [cell_of_obj o8]; rfl, by rw [cell_of_obj o8]; rfl, by rw [cell_of_obj o8]; rfl, (out_of (vals := [.slice (some ⟨w.heap.size + 1 + 1 + 1 + 1, 0, none⟩) 1 1, .slice none 0 0]) o5 (by simp) rfl (fun i hi => by
      match i, hi with
      | 0, _ => exact ⟨_, _, rfl, nats_of (xs := [0]) o4 (by simp)⟩
      | 1, _ => exact ⟨_, _, rfl, nats_nil⟩))⟩
    , fun i hi => by
    match i, hi with
    | 0, _ => exact ⟨by decide, within_lit (by decide), short_lit (by decide)⟩
    | 1, _ => exact ⟨by decide, within_lit (by decide), short_lit (by decide)⟩⟩
  have HL := hid L1
  have KA := hid kA
  have O0 := hid o0
  have O1 := hid o1
  have O2 := hid o2
  have O3 := hid o3
  have O4 := hid o4
  have O5 := hid o5
  have O6 := hid o6
  have O7 := hid o7
  have O8 := hid o8
  clear L1 kA hWW o0 o1 o2 o3 o4 o5 o6 o7 o8
  refine (Run_ok 1 0 0 0 4 _ shOne 2 _ (.inl ⟨rfl, by decide⟩) (by decide) (by decide) (by decide) HL.out (by decide)).mono ?_
  rintro e w1 ⟨va, rfl, hk1, hr1⟩
  rw [run_one] at hr1 ⊢
  have K1 := hid (KA.out.trans hk1)
  have RA := hid hr1
  have P0 := hid (hk1.obj O0.out (by simp))
  have P1 := hid (hk1.obj O1.out (by simp))
  have P2 := hid (hk1.obj O2.out (by simp))
  have P3 := hid (hk1.obj O3.out (by simp))
  have P4 := hid (hk1.obj O4.out (by simp))
  have P5 := hid (hk1.obj O5.out (by simp))
  have P6 := hid (hk1.obj O6.out (by simp))
  have P7 := hid (hk1.obj O7.out (by simp))
  have P8 := hid (hk1.obj O8.out (by simp))
  clear hk1 hr1 HL KA
  have q70 := cell_of_obj P7.out 0
  have q71 := cell_of_obj P7.out 1
  have q72 := cell_of_obj P7.out 2
  have q73 := cell_of_obj P7.out 3
  have q60 := cell_of_obj P6.out 0
  have q61 := cell_of_obj P6.out 1
  have q62 := cell_of_obj P6.out 2
  have q30 := cell_of_obj P3.out 0
  have q31 := cell_of_obj P3.out 1
  have q32 := cell_of_obj P3.out 2
  simp at q70 q71 q72 q73 q60 q61 q62 q30 q31 q32
  go_wp2_with fail
  have n8 : (w1.alloc (.cells #[.int .i64 2, .int .i64 4, .slice (some ⟨w.heap.size + 1 + 1 + 1 + 1 + 1, 0, none⟩) 2 2, .int .i64 0, .int .i64 2, .slice (some ⟨w.heap.size + 1 + 1, 0, none⟩) 2 2] 43)).heap[w1.heap.size]? = some (.cells #[.int .i64 2, .int .i64 4, .slice (some ⟨w.heap.size + 1 + 1 + 1 + 1 + 1, 0, none⟩) 2 2, .int .i64 0, .int .i64 2, .slice (some ⟨w.heap.size + 1 + 1, 0, none⟩) 2 2] 43 (0, 0)) := new_obj rfl
  have n0 := obj_alloc_old P0.out (.cells #[.int .i64 2, .int .i64 4, .slice (some ⟨w.heap.size + 1 + 1 + 1 + 1 + 1, 0, none⟩) 2 2, .int .i64 0, .int .i64 2, .slice (some ⟨w.heap.size + 1 + 1, 0, none⟩) 2 2] 43)
  have n1 := obj_alloc_old P1.out (.cells #[.int .i64 2, .int .i64 4, .slice (some ⟨w.heap.size + 1 + 1 + 1 + 1 + 1, 0, none⟩) 2 2, .int .i64 0, .int .i64 2, .slice (some ⟨w.heap.size + 1 + 1, 0, none⟩) 2 2] 43)
  have n2 := obj_alloc_old P2.out (.cells #[.int .i64 2, .int .i64 4, .slice (some ⟨w.heap.size + 1 + 1 + 1 + 1 + 1, 0, none⟩) 2 2, .int .i64 0, .int .i64 2, .slice (some ⟨w.heap.size + 1 + 1, 0, none⟩) 2 2] 43)
  have n4 := obj_alloc_old P4.out (.cells #[.int .i64 2, .int .i64 4, .slice (some ⟨w.heap.size + 1 + 1 + 1 + 1 + 1, 0, none⟩) 2 2, .int .i64 0, .int .i64 2, .slice (some ⟨w.heap.size + 1 + 1, 0, none⟩) 2 2] 43)
  have n5 := obj_alloc_old P5.out (.cells #[.int .i64 2, .int .i64 4, .slice (some ⟨w.heap.size + 1 + 1 + 1 + 1 + 1, 0, none⟩) 2 2, .int .i64 0, .int .i64 2, .slice (some ⟨w.heap.size + 1 + 1, 0, none⟩) 2 2] 43)
  have L2 : ShardList _ 4 (some ⟨w1.heap.size, 0, none⟩) shTwo := ⟨fun i hi => by
    match i, hi with
    | 0, _ => exact ⟨w1.heap.size, 0, some ⟨w.heap.size + 1 + 1 + 1 + 1 + 1, 0, none⟩, 2, rfl, by rw [cell_of_obj n8]; rfl, by rw [cell_of_obj n8]; rfl, by rw [cell_of_obj n8]; rfl, (out_of (vals := [.slice (some ⟨w.heap.size + 1 + 1 + 1 + 1, 0, none⟩) 1 1, .slice none 0 0]) n5 (by simp) rfl (fun i hi => by
      match i, hi with
      | 0, _ => exact ⟨_, _, rfl, nats_of (xs := [0]) n4 (by simp)⟩
      | 1, _ => exact ⟨_, _, rfl, nats_nil⟩))⟩
    | 1, _ => exact ⟨w1.heap.size, 0, some ⟨w.heap.size + 1 + 1, 0, none⟩, 2, rfl, by rw [cell_of_obj n8]; rfl, by rw [cell_of_obj n8]; rfl, by rw [cell_of_obj n8]; rfl, (out_of (vals := [.slice (some ⟨w.heap.size, 0, none⟩) 1 1, .slice (some ⟨w.heap.size + 1, 0, none⟩) 1 1]) n2 (by simp) rfl (fun i hi => by
      match i, hi with
      | 0, _ => exact ⟨_, _, rfl, nats_of (xs := [1]) n0 (by simp)⟩
      | 1, _ => exact ⟨_, _, rfl, nats_of (xs := [2]) n1 (by simp)⟩))⟩
    , fun i hi => by
    match i, hi with
    | 0, _ => exact ⟨by decide, within_lit (by decide), short_lit (by decide)⟩
    | 1, _ => exact ⟨by decide, within_lit (by decide), short_lit (by decide)⟩⟩
  refine (Run_ok 1 0 0 0 4 _ shTwo 2 _ (.inl ⟨rfl, by decide⟩) (by decide) (by decide) (by decide) L2 (by decide)).mono ?_
  rintro e w2 ⟨vb, rfl, hk2, hr2⟩
  rw [run_two] at hr2 ⊢
  have K2 := hid ((K1.out.alloc _).trans hk2)
  have RB := hid hr2
  have RA2 := hid (ownsRow_kept (ownsRow_kept RA.out ((Kept.refl [] w1).alloc _) (by simp)) hk2 (by simp))
  clear hk2 hr2 L2 n0 n1 n2 n4 n5 n8
  go_wp2_with fail
  refine (Run_no 4 0 0 4 _ _ (by decide) (by decide) (by decide) (by decide)).mono ?_
  rintro e w3 ⟨rfl, hk3⟩
  have K3 := hid (K2.out.trans hk3)
  have RB3 := hid (ownsRow_kept RB.out hk3 (by simp))
  have RA3 := hid (ownsRow_kept RA2.out hk3 (by simp))
  clear hk3
  go_wp2_with fail
  refine (Numbers_true _ 0 va _ _ [0, 1, 2, 18446744073709551615] _ (ownsRow_kept RA3.out ((Kept.refl [] _).alloc _) (by simp)) (row_lit (xs := [0, 1, 2, 18446744073709551615]) (new_obj rfl) (by decide)) (by decide) rfl).mono ?_
  rintro e w4 ⟨rfl, hk4⟩
  have K4 := hid ((K3.out.alloc _).trans hk4)
  have RB4 := hid (ownsRow_kept (ownsRow_kept RB3.out ((Kept.refl [] _).alloc _) (by simp)) hk4 (by simp))
  have RA4 := hid (ownsRow_kept (ownsRow_kept RA3.out ((Kept.refl [] _).alloc _) (by simp)) hk4 (by simp))
  clear hk4
  go_wp2_with fail
  refine (Numbers_true _ _ vb va _ _ _ RB4.out RA4.out (by decide) rfl).mono ?_
  rintro e w5 ⟨rfl, hk5⟩
  have K5 := hid (K4.out.trans hk5)
  clear hk5
  go_wp2_with fail
  go_ret
  exact ⟨rfl, K5.out⟩
end Go.Proofs.YtedljgohmlilgaaGreat
